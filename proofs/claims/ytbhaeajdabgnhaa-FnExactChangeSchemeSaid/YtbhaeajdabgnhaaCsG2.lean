/- Functions of the program as plain functions, and that they compute these. Printed by gen.py. -/
import Derived.Test.YtbhaeajdabgnhaaCsG1
set_option linter.unusedVariables false
set_option linter.unusedSimpArgs false
set_option maxRecDepth 4000
set_option maxHeartbeats 1000000
namespace Go.Proofs.YtB
open Go Go.RowKit Go.Proofs Go.Proofs.YtbhaeajdabgnhaaW.PrintWords
/-! f106 -/
noncomputable def impl_rank_l1 (a1 : List (List Int)) (s2 : Int) (s3 : List Nat) (s4 : List (List Int)) : Option (LR (Int × (List Nat) × (List (List Int))) Int) :=
  if (decide (s2 < (a1.length : Int))) = true then (if 0 ≤ s2 ∧ s2 < (a1.length : Int) then ((slices_Clone_111 (gl [] a1 s2)).bind fun x10 => if (s3.length + 1) * 24 ≤ 140737488355328 then (some (.next (w64 (s2 + 1), (s3 ++ [s4.length]), (s4 ++ [x10])))) else none) else none) else (some (.stop (s2, s3, s4)))
noncomputable def impl_rank_l56 (a0 : Int) (s18 : Int) (s19 : List Nat) (s22 : Int) (x30 : Int) (x44 : Int) (s47 : Int) (s48 : List (List Int)) (s57 : Int) (s58 : List (List Int)) : Option (LR (Int × (List (List Int))) Int) :=
  if (decide (s57 < ((s48.getD (gl 0 ((s19.set s18.toNat (gl 0 s19 (w64 (s18 + x30)))).set (w64 (s18 + x30)).toNat (gl 0 s19 s18)) s47) []).length : Int))) = true then (if 0 ≤ s57 ∧ s57 < ((s58.getD (gl 0 ((s19.set s18.toNat (gl 0 s19 (w64 (s18 + x30)))).set (w64 (s18 + x30)).toNat (gl 0 s19 s18)) s47) []).length : Int) then (if 0 ≤ s57 ∧ s57 < ((s58.getD (gl 0 ((s19.set s18.toNat (gl 0 s19 (w64 (s18 + x30)))).set (w64 (s18 + x30)).toNat (gl 0 s19 s18)) s18) []).length : Int) then (some (.next (w64 (s57 + 1), (s58.set (gl 0 ((s19.set s18.toNat (gl 0 s19 (w64 (s18 + x30)))).set (w64 (s18 + x30)).toNat (gl 0 s19 s18)) s47) ((s58.getD (gl 0 ((s19.set s18.toNat (gl 0 s19 (w64 (s18 + x30)))).set (w64 (s18 + x30)).toNat (gl 0 s19 s18)) s47) []).set s57.toNat ((w64 (((w64 ((gl 0 (s58.getD (gl 0 ((s19.set s18.toNat (gl 0 s19 (w64 (s18 + x30)))).set (w64 (s18 + x30)).toNat (gl 0 s19 s18)) s47) []) s57) - (w64 (((w64 ((gl 0 (s48.getD (gl 0 ((s19.set s18.toNat (gl 0 s19 (w64 (s18 + x30)))).set (w64 (s18 + x30)).toNat (gl 0 s19 s18)) s47) []) s22) * x44)).tmod a0) * (gl 0 (s58.getD (gl 0 ((s19.set s18.toNat (gl 0 s19 (w64 (s18 + x30)))).set (w64 (s18 + x30)).toNat (gl 0 s19 s18)) s18) []) s57))))).tmod a0) + a0)).tmod a0)))))) else none) else none) else (some (.stop (s57, s58)))
noncomputable def impl_rank_l46 (a0 : Int) (s18 : Int) (s19 : List Nat) (s22 : Int) (x30 : Int) (x44 : Int) (s47 : Int) (s48 : List (List Int)) : Option (LR (Int × (List (List Int))) Int) :=
  if (decide (s47 < (((s19.set s18.toNat (gl 0 s19 (w64 (s18 + x30)))).set (w64 (s18 + x30)).toNat (gl 0 s19 s18)).length : Int))) = true then (if 0 ≤ s47 ∧ s47 < (((s19.set s18.toNat (gl 0 s19 (w64 (s18 + x30)))).set (w64 (s18 + x30)).toNat (gl 0 s19 s18)).length : Int) then (if 0 ≤ s22 ∧ s22 < ((s48.getD (gl 0 ((s19.set s18.toNat (gl 0 s19 (w64 (s18 + x30)))).set (w64 (s18 + x30)).toNat (gl 0 s19 s18)) s47) []).length : Int) then (if a0 ≠ 0 then ((iter (fun s => impl_rank_l56 a0 s18 s19 s22 x30 x44 s47 s48 s.1 s.2) (0, s48)).bind fun o => match o with | .stop (s57, s58) => (some (.next (w64 (s47 + 1), s58))) | .ret r => some (.ret r) | .next _ => none) else none) else none) else none) else (some (.stop (s47, s48)))
noncomputable def impl_rank_l17 (a0 : Int) (s18 : Int) (s19 : List Nat) (s20 : List (List Int)) (s22 : Int) : Option (LR (Int × (List Nat) × (List (List Int)) × Int) Int) :=
  (if (decide (s18 < (s19.length : Int))) = true then (if 0 ≤ (0 : Int) ∧ (0 : Int) < (s19.length : Int) then (some (decide (s22 < ((s20.getD (gl 0 s19 (0 : Int)) []).length : Int)))) else none) else (some false)).bind fun (s24 : Bool) => if s24 = true then (if 0 ≤ s18 ∧ s18 ≤ ((gi s19 s20).length : Int) then ((slices_IndexFunc_108_f149 (((gi s19 s20).take ((gi s19 s20).length : Int).toNat).drop s18.toNat) s22).bind fun x30 => if (decide (x30 < 0)) = true then (some (.next (s18, s19, s20, w64 (s22 + 1)))) else (if 0 ≤ w64 (s18 + x30) ∧ w64 (s18 + x30) < (s19.length : Int) then (if 0 ≤ s18 ∧ s18 < (s19.length : Int) then (if 0 ≤ w64 (s18 + x30) ∧ w64 (s18 + x30) < ((s19.set s18.toNat (gl 0 s19 (w64 (s18 + x30)))).length : Int) then (if 0 ≤ s18 ∧ s18 < (((s19.set s18.toNat (gl 0 s19 (w64 (s18 + x30)))).set (w64 (s18 + x30)).toNat (gl 0 s19 s18)).length : Int) then (if 0 ≤ s22 ∧ s22 < ((s20.getD (gl 0 ((s19.set s18.toNat (gl 0 s19 (w64 (s18 + x30)))).set (w64 (s18 + x30)).toNat (gl 0 s19 s18)) s18) []).length : Int) then ((impl_inverse a0 (gl 0 (s20.getD (gl 0 ((s19.set s18.toNat (gl 0 s19 (w64 (s18 + x30)))).set (w64 (s18 + x30)).toNat (gl 0 s19 s18)) s18) []) s22)).bind fun x44 => (iter (fun s => impl_rank_l46 a0 s18 s19 s22 x30 x44 s.1 s.2) (w64 (s18 + 1), s20)).bind fun o => match o with | .stop (s47, s48) => (some (.next (w64 (s18 + 1), ((s19.set s18.toNat (gl 0 s19 (w64 (s18 + x30)))).set (w64 (s18 + x30)).toNat (gl 0 s19 s18)), s48, w64 (s22 + 1)))) | .ret r => some (.ret r) | .next _ => none) else none) else none) else none) else none) else none)) else none) else (some (.stop (s18, s19, s20, s22)))
noncomputable def impl_rank (a0 : Int) (a1 : List (List Int)) : Option Int :=
  (iter (fun s => impl_rank_l1 a1 s.1 s.2.1 s.2.2) (0, ([] : List Nat), ([] : List (List Int)))).bind fun o => match o with | .stop (s2, s3, s4) => ((iter (fun s => impl_rank_l17 a0 s.1 s.2.1 s.2.2.1 s.2.2.2) (0, s3, s4, 0)).bind fun o => match o with | .stop (s18, s19, s20, s22) => (some (s18)) | .ret r => some r | .next _ => none) | .ret r => some r | .next _ => none
theorem impl_rank_ok {w0 : World} {a0 : Int} {a1 : List (List Int)} {va1 : Value} (h1 : Ro (Kd.slice 2 (kf fI64)) w0 va1 a1) {r : Int} (hF : impl_rank a0 a1 = some r) :
    Calls Try.prog 106 [vI a0, va1].toArray w0 fun e w => ∃ v, e = .returned v ∧ Below w0.heap.size w0 w ∧ .int .i64 r = v := by
  refine calls_of (k := 137) Try.func106 rfl rfl (Nat.le_of_ble_eq_true rfl) fun a hf => ?_
  replace hf : Fr 137 a [(0, vI a0), (1, va1)] := hf
  refine c_start fun w ρ hw => ?_
  unfold impl_rank at hF
  refine c_seq <| c_region ?_
  refine s_ hf (r_assign hf rfl) fun a hf => ?_
  refine c_nt <| c_seq <| c_region ?_
  refine sx_ hf (r_lit_none (d := (Kd.slice 2 (kf fI64))) 1 Try.underlying24 el36 hw) fun a v1 w hf hΦ => ?_
  obtain ⟨ρ, hw, hE, o1⟩ := hΦ
  replace o1 : Gd fI64 2 36 ρ w w0.heap.size 1 v1 (fun _ => (⟨.bool false, rfl⟩ : V1)) ([] : List Nat) ([] : List (List Int)) := Gd.empty o1 rfl (by decide) _
  refine s_ hf (r_assign hf rfl) fun a hf => ?_
  refine c_nt <| c_seq <| c_seq <| c_region ?_
  refine s_ hf (r_move hf rfl) fun a hf => ?_
  refine s_ hf (r_len Try.underlying24 (h1.now hw) hf rfl) fun a hf => ?_
  refine s_ hf (r_move hf rfl) fun a hf => ?_
  refine c_nt ?_
  obtain ⟨ol1, ho1, hG1⟩ := of_bind hF
  clear hF
  refine c_block (c_loop (id := 0) (fun s => impl_rank_l1 a1 s.1 s.2.1 s.2.2) (fun (s : Int × (List Nat) × (List (List Int))) a w => match s with | (s2, s3, s4) => ∃ ρ vv5 f6, Wd w0 ρ w ∧ Fr 137 a [(0, vI a0), (5, vv5), (16, va1), (17, vI (a1.length : Int)), (18, vI s2)] ∧ Gd fI64 2 36 ρ w w0.heap.size 1 vv5 f6 s3 s4) (fun (s : Int × (List Nat) × (List (List Int))) a w => match s with | (s2, s3, s4) => ∃ ρ vv5 f6, Wd w0 ρ w ∧ Fr 137 a [(0, vI a0), (5, vv5)] ∧ Gd fI64 2 36 ρ w w0.heap.size 1 vv5 f6 s3 s4) ho1 ⟨_, _, _, hw, hf.sub ⟨rfl, rfl, rfl, rfl, rfl, trivial⟩, o1⟩ ?_ ?_)
  · rintro ⟨s2, s3, s4⟩ lr a w ⟨ρ, vv5, f6, hw, hf, o1⟩ hF
    replace hF : impl_rank_l1 a1 s2 s3 s4 = some lr := hF
    unfold impl_rank_l1 at hF
    refine c_seq <| c_region ?_
    refine s_ hf (r_lss hf rfl rfl) fun a hf => ?_
    refine c_nt <| c_seq ?_
    rcases of_ite hF with ⟨hb7, hF⟩ | ⟨hb7, hF⟩
    rotate_left
    · refine c_iff hf rfl hb7 <| c_exit <| x_then ?_
      obtain rfl := Option.some.inj hF
      exact Rnd.stops ⟨_, _, _, hw, hf.sub ⟨rfl, rfl, trivial⟩, o1⟩
    refine c_ift hf rfl hb7 <| c_skip <| n_then <| c_seq <| c_block <| c_seq <| c_region ?_
    obtain ⟨hc8, hF⟩ := of_guard hF
    obtain ⟨ad9, c9, u9, he9, hl9, ho9⟩ := Ro.el_row h1 hc8.1 hc8.2
    refine s_ hf (r_idx Try.underlying24 sz36 hf rfl ⟨_, he9⟩ rfl hc8.1 hc8.2) fun a hf => ?_
    refine s_ hf (r_load_cell ty36 hf rfl (hl9.below hw.below)) fun a hf => ?_
    refine s_ hf (r_assign hf rfl) fun a hf => ?_
    refine c_nt <| c_region ?_
    refine s_ hf (r_move hf rfl) fun a hf => ?_
    refine s_ hf (r_move hf rfl) fun a hf => ?_
    obtain ⟨x10, hx11, hF⟩ := of_bind hF
    refine st_fn 2 hw hf rfl rfl (by decide) (r_fn en111 hf rfl) (slices_Clone_111_ok (ho9.now hw) hx11) fun a v w ρ hf hw hE hN hΦ => ?_
    obtain ⟨u12, rfl, hr13⟩ := hΦ
    replace o1 := o1.ext hE
    have o2 := hN hr13
    refine sx_ hf (r_glit 3 Try.underlying24 el36 hw hf rfl o2) fun a v3 w hf hΦ => ?_
    obtain ⟨ρ, hw, hE, o3⟩ := hΦ
    replace o1 := o1.ext hE
    replace o2 := o2.ext hE
    obtain ⟨hc14, hF⟩ := of_guard hF
    refine sx_ hf (r_gapp' Try.underlying24 el36 hw (by decide) (by decide) (fun _ => by unfold lab; omega) o1 o3 o2 hc14 hf rfl rfl) fun a va15 w hf hΦ => ?_
    obtain ⟨f15, ρ, hw, hT, o1, hff15, hnu15⟩ := hΦ
    rw [hnu15] at hf
    have hn16 : s4.length < (s4 ++ [x10]).length := by simp
    refine s_ hf (r_assign hf rfl) fun a hf => ?_
    refine c_nil <| n_block <| n_then <| c_region ?_
    refine s_ hf (r_add hf rfl rfl) fun a hf => ?_
    refine s_ hf (r_move hf rfl) fun a hf => ?_
    refine c_nil ?_
    obtain rfl := Option.some.inj hF
    exact Rnd.goes ⟨_, _, _, hw, hf.sub ⟨rfl, rfl, rfl, rfl, rfl, trivial⟩, o1⟩
  rintro ⟨s2, s3, s4⟩ a w hs ⟨ρ, vv5, f6, hw, hf, o1⟩
  subst hs
  have hF := hG1
  dsimp only at hF
  refine x_block <| n_then <| c_seq <| c_region ?_
  refine s_ hf (r_assign hf rfl) fun a hf => ?_
  refine c_nt <| c_seq <| c_seq <| c_region ?_
  refine sx_ hf (r_alloc (cs := [vI 0]) 5 ze3 rfl hw) fun a v w hf hΦ => ?_
  obtain ⟨g5, ρ, rfl, hw, hE, o5⟩ := hΦ
  replace o1 := o1.ext hE
  refine sk_ hf (r_store_w (cs' := [vI 0]) hw o5 (by decide) ty3 rfl rfl (one_one rfl) hf rfl rfl rfl) fun a w hf hΦ => ?_
  obtain ⟨hw, hA, o5⟩ := hΦ
  replace o1 := o1.adv hA (by decide) (fun _ => by unfold lab; omega)
  refine c_nt ?_
  obtain ⟨ol17, ho17, hG17⟩ := of_bind hF
  clear hF
  refine c_block (c_loop (id := 2) (fun s => impl_rank_l17 a0 s.1 s.2.1 s.2.2.1 s.2.2.2) (fun (s : Int × (List Nat) × (List (List Int)) × Int) a w => match s with | (s18, s19, s20, s22) => ∃ ρ g21, Wd w0 ρ w ∧ Fr 137 a [(0, vI a0), (5, vv5), (8, vI s18), (9, .pointer (some ((⟨g21, 0, none⟩ : Addr).add 0)))] ∧ Gd fI64 2 36 ρ w w0.heap.size 1 vv5 f6 s19 s20 ∧ Va ρ w 5 g21 3 ([vI s22])) (fun (s : Int × (List Nat) × (List (List Int)) × Int) a w => match s with | (s18, s19, s20, s22) => ∃ ρ, Wd w0 ρ w ∧ Fr 137 a [(8, vI s18)]) ho17 ⟨_, _, hw, hf.sub ⟨rfl, rfl, rfl, rfl, trivial⟩, o1, o5⟩ ?_ ?_)
  · rintro ⟨s18, s19, s20, s22⟩ lr a w ⟨ρ, g21, hw, hf, o1, o5⟩ hF
    replace hF : impl_rank_l17 a0 s18 s19 s20 s22 = some lr := hF
    unfold impl_rank_l17 at hF
    refine c_seq <| c_seq ?_
    obtain ⟨s24, hT23, hG23⟩ := of_bind hF
    clear hF
    refine c_meet (fun (s24 : Bool) a w => ∃ ρ, Wd w0 ρ w ∧ Fr 137 a [(0, vI a0), (5, vv5), (8, vI s18), (9, .pointer (some ((⟨g21, 0, none⟩ : Addr).add 0))), (39, .bool s24)] ∧ Gd fI64 2 36 ρ w w0.heap.size 1 vv5 f6 s19 s20 ∧ Va ρ w 5 g21 3 ([vI s22])) s24 ?_ ?_
    · have hF := hT23
      rcases of_ite hF with ⟨hb25, hF⟩ | ⟨hb25, hF⟩
      rotate_left
      · replace hf : Fr 137 a [(0, vI a0), (5, vv5), (8, vI s18), (9, .pointer (some ((⟨g21, 0, none⟩ : Addr).add 0)))] := hf.sub ⟨rfl, rfl, rfl, rfl, trivial⟩
        refine c_drawL (h := 10) mixed (by kernel_rfl) (by kernel_rfl) (fun ρ w => Gd fI64 2 36 ρ w w0.heap.size 1 vv5 f6 s19 s20 ∧ Va ρ w 5 g21 3 ([vI s22])) ?_ [fun ρ w v => vI s18 = v, fun ρ w v => vv5 = v, fun ρ w v => vI (s19.length : Int) = v, fun ρ w v => .bool (decide (s18 < (s19.length : Int))) = v, fun ρ w v => .bool (decide (s18 < (s19.length : Int))) = v, fun ρ w v => undef = v, fun ρ w v => undef = v, fun ρ w v => undef = v, fun ρ w v => undef = v, fun ρ w v => undef = v] ?_ hw ⟨o1, o5⟩ hf ?_ ?_
        · intro ρ w ρ' w' hE hG
          obtain ⟨o1, o5⟩ := hG
          exact ⟨o1.ext hE, o5.ext hE⟩
        · exact LastsL.cons (fun _ _ _ _ _ _ h => h) <| LastsL.cons (fun _ _ _ _ _ _ h => h) <| LastsL.cons (fun _ _ _ _ _ _ h => h) <| LastsL.cons (fun _ _ _ _ _ _ h => h) <| LastsL.cons (fun _ _ _ _ _ _ h => h) <| LastsL.cons (fun _ _ _ _ _ _ h => h) <| LastsL.cons (fun _ _ _ _ _ _ h => h) <| LastsL.cons (fun _ _ _ _ _ _ h => h) <| LastsL.cons (fun _ _ _ _ _ _ h => h) <| LastsL.cons (fun _ _ _ _ _ _ h => h) <| LastsL.nil
        · refine StepsB.cons ?_ <| StepsB.cons ?_ <| StepsB.cons ?_ <| StepsB.cons ?_ <| StepsB.cons ?_ <| StepsB.cons ?_ <| StepsB.cons ?_ <| StepsB.cons ?_ <| StepsB.cons ?_ <| StepsB.cons ?_ <| StepsB.nil
          · intro ρ w a hw hG hf hd K hK
            obtain ⟨o1, o5⟩ := hG
            exact dv_ hK hw (wn rfl) (r_move hf rfl) rfl
          · intro ρ w a hw hG hf hd K hK
            obtain ⟨o1, o5⟩ := hG
            exact dv_ hK hw (wn rfl) (r_move hf rfl) rfl
          · intro ρ w a hw hG hf hd K hK
            obtain ⟨o1, o5⟩ := hG
            obtain ⟨_, hf, rfl⟩ := got (hd 1 (by kernel_rfl)) hf
            exact dv_ hK hw (wn rfl) (r_len Try.underlying24 o1.out.ro hf rfl) rfl
          · intro ρ w a hw hG hf hd K hK
            obtain ⟨o1, o5⟩ := hG
            obtain ⟨_, hf, rfl⟩ := got (hd 0 (by kernel_rfl)) hf
            obtain ⟨_, hf, rfl⟩ := got (hd 2 (by kernel_rfl)) hf
            exact dv_ hK hw (wn rfl) (r_lss hf rfl rfl) rfl
          · intro ρ w a hw hG hf hd K hK
            obtain ⟨o1, o5⟩ := hG
            obtain ⟨_, hf, rfl⟩ := got (hd 3 (by kernel_rfl)) hf
            exact dv_ hK hw (wn rfl) (r_move hf rfl) rfl
          · intro ρ w a hw hG hf hd K hK
            obtain ⟨o1, o5⟩ := hG
            obtain ⟨_, hf, rfl⟩ := got (hd 4 (by kernel_rfl)) hf
            exact do_ hK (b := false) hw hf rfl rfl rfl hb25 rfl rfl
          · intro ρ w a hw hG hf hd K hK
            obtain ⟨o1, o5⟩ := hG
            obtain ⟨_, hf, rfl⟩ := got (hd 4 (by kernel_rfl)) hf
            exact do_ hK (b := false) hw hf rfl rfl rfl hb25 rfl rfl
          · intro ρ w a hw hG hf hd K hK
            obtain ⟨o1, o5⟩ := hG
            obtain ⟨_, hf, rfl⟩ := got (hd 4 (by kernel_rfl)) hf
            obtain ⟨_, hf, rfl⟩ := got (hd 6 (by kernel_rfl)) hf
            exact do_ hK (b := false) hw hf rfl rfl rfl hb25 rfl rfl
          · intro ρ w a hw hG hf hd K hK
            obtain ⟨o1, o5⟩ := hG
            obtain ⟨_, hf, rfl⟩ := got (hd 4 (by kernel_rfl)) hf
            obtain ⟨_, hf, rfl⟩ := got (hd 7 (by kernel_rfl)) hf
            exact do_ hK (b := false) hw hf rfl rfl rfl hb25 rfl rfl
          · intro ρ w a hw hG hf hd K hK
            obtain ⟨o1, o5⟩ := hG
            obtain ⟨_, hf, rfl⟩ := got (hd 4 (by kernel_rfl)) hf
            obtain ⟨_, hf, rfl⟩ := got (hd 8 (by kernel_rfl)) hf
            exact do_ hK (b := false) hw hf rfl rfl rfl hb25 rfl rfl
        intro ρ w a hw hG hf hd
        obtain ⟨o1, o5⟩ := hG
        obtain ⟨_, hf, rfl⟩ := got (hd 4 (by decide)) hf
        obtain ⟨_, hf, rfl⟩ := got (hd 5 (by decide)) hf
        obtain ⟨_, hf, rfl⟩ := got (hd 9 (by decide)) hf
        refine st_no (b := false) hf rfl rfl rfl hb25 rfl (by decide) fun a hf => ?_
        refine s_ hf (r_pick (b := false) hf rfl hb25 rfl) fun a hf => ?_
        refine c_nil ⟨rfl, ?_⟩
        obtain rfl := Option.some.inj hF
        exact ⟨_, hw, hf.sub ⟨rfl, rfl, rfl, rfl, rfl, trivial⟩, o1, o5⟩
      obtain ⟨hc26, hF⟩ := of_guard hF
      replace hf : Fr 137 a [(0, vI a0), (5, vv5), (8, vI s18), (9, .pointer (some ((⟨g21, 0, none⟩ : Addr).add 0)))] := hf.sub ⟨rfl, rfl, rfl, rfl, trivial⟩
      refine c_drawL (h := 10) mixed (by kernel_rfl) (by kernel_rfl) (fun ρ w => Gd fI64 2 36 ρ w w0.heap.size 1 vv5 f6 s19 s20 ∧ Va ρ w 5 g21 3 ([vI s22])) ?_ [fun ρ w v => vI s18 = v, fun ρ w v => vv5 = v, fun ρ w v => vI (s19.length : Int) = v, fun ρ w v => .bool (decide (s18 < (s19.length : Int))) = v, fun ρ w v => .bool (decide (s18 < (s19.length : Int))) = v, fun ρ w v => vI s22 = v, fun ρ w v => vv5 = v, fun ρ w v => ∃ ad27, .pointer (some (ad27.add ((0 : Int).toNat * 1))) = v ∧ (gl 0 s19 (0 : Int)) < s20.length ∧ Ce ρ w 1 vv5 s19.length ad27 ((0 : Int).toNat * 1) ([(f6 (gl 0 s19 (0 : Int))).1]), fun ρ w v => (f6 (gl 0 s19 (0 : Int))).1 = v ∧ (gl 0 s19 (0 : Int)) < s20.length, fun ρ w v => vI ((s20.getD (gl 0 s19 (0 : Int)) []).length : Int) = v] ?_ hw ⟨o1, o5⟩ hf ?_ ?_
      · intro ρ w ρ' w' hE hG
        obtain ⟨o1, o5⟩ := hG
        exact ⟨o1.ext hE, o5.ext hE⟩
      · exact LastsL.cons (fun _ _ _ _ _ _ h => h) <| LastsL.cons (fun _ _ _ _ _ _ h => h) <| LastsL.cons (fun _ _ _ _ _ _ h => h) <| LastsL.cons (fun _ _ _ _ _ _ h => h) <| LastsL.cons (fun _ _ _ _ _ _ h => h) <| LastsL.cons (fun _ _ _ _ _ _ h => h) <| LastsL.cons (fun _ _ _ _ _ _ h => h) <| LastsL.cons (fun _ _ _ _ _ hE h => by obtain ⟨ad27, h, hn27, hl27⟩ := h; exact ⟨_, h, hn27, hl27.ext hE⟩) <| LastsL.cons (fun _ _ _ _ _ hE h => by obtain ⟨h, hn27⟩ := h; exact ⟨h, hn27⟩) <| LastsL.cons (fun _ _ _ _ _ _ h => h) <| LastsL.nil
      · refine StepsB.cons ?_ <| StepsB.cons ?_ <| StepsB.cons ?_ <| StepsB.cons ?_ <| StepsB.cons ?_ <| StepsB.cons ?_ <| StepsB.cons ?_ <| StepsB.cons ?_ <| StepsB.cons ?_ <| StepsB.cons ?_ <| StepsB.nil
        · intro ρ w a hw hG hf hd K hK
          obtain ⟨o1, o5⟩ := hG
          exact dv_ hK hw (wn rfl) (r_move hf rfl) rfl
        · intro ρ w a hw hG hf hd K hK
          obtain ⟨o1, o5⟩ := hG
          exact dv_ hK hw (wn rfl) (r_move hf rfl) rfl
        · intro ρ w a hw hG hf hd K hK
          obtain ⟨o1, o5⟩ := hG
          obtain ⟨_, hf, rfl⟩ := got (hd 1 (by kernel_rfl)) hf
          exact dv_ hK hw (wn rfl) (r_len Try.underlying24 o1.out.ro hf rfl) rfl
        · intro ρ w a hw hG hf hd K hK
          obtain ⟨o1, o5⟩ := hG
          obtain ⟨_, hf, rfl⟩ := got (hd 0 (by kernel_rfl)) hf
          obtain ⟨_, hf, rfl⟩ := got (hd 2 (by kernel_rfl)) hf
          exact dv_ hK hw (wn rfl) (r_lss hf rfl rfl) rfl
        · intro ρ w a hw hG hf hd K hK
          obtain ⟨o1, o5⟩ := hG
          obtain ⟨_, hf, rfl⟩ := got (hd 3 (by kernel_rfl)) hf
          exact dv_ hK hw (wn rfl) (r_move hf rfl) rfl
        · intro ρ w a hw hG hf hd K hK
          obtain ⟨o1, o5⟩ := hG
          obtain ⟨_, hf, rfl⟩ := got (hd 4 (by kernel_rfl)) hf
          exact dv_ hK hw (wg (b := true) hf rfl rfl rfl hb25) (r_load_cell ty3 hf rfl o5.cl) rfl
        · intro ρ w a hw hG hf hd K hK
          obtain ⟨o1, o5⟩ := hG
          obtain ⟨_, hf, rfl⟩ := got (hd 4 (by kernel_rfl)) hf
          exact dv_ hK hw (wg (b := true) hf rfl rfl rfl hb25) (r_move hf rfl) rfl
        · intro ρ w a hw hG hf hd K hK
          obtain ⟨o1, o5⟩ := hG
          obtain ⟨_, hf, rfl⟩ := got (hd 4 (by kernel_rfl)) hf
          obtain ⟨_, hf, rfl⟩ := got (hd 6 (by kernel_rfl)) hf
          obtain ⟨ad27, hl27⟩ := Ow.ce (d := fRef f6) o1.out 0 hc26.1 hc26.2
          have hn27 := o1.lt_gl hc26.1 hc26.2
          exact dv_ hK hw (wg (b := true) hf rfl rfl rfl hb25) (r_idx Try.underlying24 sz36 hf rfl hl27.at_ rfl hc26.1 hc26.2) (ex_ <| an_ rfl <| an_ hn27 <| hl27)
        · intro ρ w a hw hG hf hd K hK
          obtain ⟨o1, o5⟩ := hG
          obtain ⟨_, hf, rfl⟩ := got (hd 4 (by kernel_rfl)) hf
          obtain ⟨_, hf, ⟨ad27, rfl, hn27, hl27⟩⟩ := got (hd 7 (by kernel_rfl)) hf
          exact dv_ hK hw (wg (b := true) hf rfl rfl rfl hb25) (r_load_cell ty36 hf rfl hl27.co.cl) (an_ rfl <| hn27)
        · intro ρ w a hw hG hf hd K hK
          obtain ⟨o1, o5⟩ := hG
          obtain ⟨_, hf, rfl⟩ := got (hd 4 (by kernel_rfl)) hf
          obtain ⟨_, hf, ⟨rfl, hn27⟩⟩ := got (hd 8 (by kernel_rfl)) hf
          exact dv_ hK hw (wg (b := true) hf rfl rfl rfl hb25) (r_len Try.underlying36 ((o1.rowAt hn27).ro) hf rfl) rfl
      intro ρ w a hw hG hf hd
      obtain ⟨o1, o5⟩ := hG
      obtain ⟨_, hf, rfl⟩ := got (hd 4 (by decide)) hf
      obtain ⟨_, hf, rfl⟩ := got (hd 5 (by decide)) hf
      obtain ⟨_, hf, rfl⟩ := got (hd 9 (by decide)) hf
      refine st_g (b := true) hf rfl rfl rfl hb25 rfl (by decide) (r_lss hf rfl rfl) fun a hf => ?_
      refine s_ hf (r_pick (b := true) hf rfl hb25 rfl) fun a hf => ?_
      refine c_nil ⟨rfl, ?_⟩
      obtain rfl := Option.some.inj hF
      exact ⟨_, hw, hf.sub ⟨rfl, rfl, rfl, rfl, rfl, trivial⟩, o1, o5⟩
    rintro a w ⟨ρ, hw, hf, o1, o5⟩
    have hF := hG23
    refine n_then ?_
    rcases of_ite hF with ⟨hb28, hF⟩ | ⟨hb28, hF⟩
    rotate_left
    · refine c_iff hf rfl hb28 <| c_exit <| x_then ?_
      obtain rfl := Option.some.inj hF
      exact Rnd.stops ⟨_, hw, hf.sub ⟨rfl, trivial⟩⟩
    refine c_ift hf rfl hb28 <| c_skip <| n_then <| c_seq <| c_block <| c_seq <| c_region ?_
    refine s_ hf (r_move hf rfl) fun a hf => ?_
    refine s_ hf (r_move hf rfl) fun a hf => ?_
    obtain ⟨hc29, hF⟩ := of_guard hF
    have o8 : Ro (Kd.slice 2 (kf fI64)) w (cutV vv5 s18.toNat ((gi s19 s20).length : Int).toNat 1) (((gi s19 s20).take ((gi s19 s20).length : Int).toNat).drop s18.toNat) := ro_cutV o1.ro hc29.1 hc29.2 (Int.le_refl _)
    refine s_ hf (r_cut_v (lo := s18) (hi := ((gi s19 s20).length : Int)) Try.underlying24 sz36 rfl o1.ro hf rfl (.inr ⟨_, rfl, rfl⟩) (.inl ⟨rfl, rfl⟩) hc29.1 hc29.2 (Int.le_refl _)) fun a hf => ?_
    refine s_ hf (r_mkfn hf rfl) fun a hf => ?_
    obtain ⟨x30, hx31, hF⟩ := of_bind hF
    refine st_fn 9 hw hf rfl rfl (by decide) (r_fn en108 hf rfl) (slices_IndexFunc_108_f149_ok o8 o5.cl hx31) fun a v w ρ hf hw hE hN hΦ => ?_
    obtain rfl := hΦ
    replace o1 := o1.ext hE
    replace o5 := o5.ext hE
    replace o8 := o8.ext hE
    refine s_ hf (r_assign hf rfl) fun a hf => ?_
    refine c_nt <| c_seq <| c_seq <| c_region ?_
    refine s_ hf (r_move hf rfl) fun a hf => ?_
    refine s_ hf (r_lss hf rfl rfl) fun a hf => ?_
    refine c_nt ?_
    rcases of_ite hF with ⟨hb32, hF⟩ | ⟨hb32, hF⟩
    · refine c_ift hf rfl hb32 <| c_exit <| x_then <| x_block <| n_then <| c_seq <| c_seq <| c_region ?_
      refine s_ hf (r_load_cell ty3 hf rfl o5.cl) fun a hf => ?_
      refine c_nt <| c_region ?_
      refine sx_ hf (r_alloc (cs := [vI 0]) 10 ze3 rfl hw) fun a v w hf hΦ => ?_
      obtain ⟨g10, ρ, rfl, hw, hE, o10⟩ := hΦ
      replace o1 := o1.ext hE
      replace o5 := o5.ext hE
      replace o8 := o8.ext hE
      refine sk_ hf (r_store_w (cs' := [vI s22]) hw o10 (by decide) ty3 rfl rfl (one_one rfl) hf rfl rfl rfl) fun a w hf hΦ => ?_
      obtain ⟨hw, hA, o10⟩ := hΦ
      replace o1 := o1.adv hA (by decide) (fun _ => by unfold lab; omega)
      replace o5 := o5.adv hA (by decide)
      refine c_nt <| c_region ?_
      refine s_ hf (r_load_cell ty3 hf rfl o10.cl) fun a hf => ?_
      refine s_ hf (r_add hf rfl rfl) fun a hf => ?_
      refine sk_ hf (r_store_w (cs' := [vI (w64 (s22 + 1))]) hw o10 (by decide) ty3 rfl rfl (one_one rfl) hf rfl rfl rfl) fun a w hf hΦ => ?_
      obtain ⟨hw, hA, o10⟩ := hΦ
      replace o1 := o1.adv hA (by decide) (fun _ => by unfold lab; omega)
      replace o5 := o5.adv hA (by decide)
      refine c_nil ?_
      obtain rfl := Option.some.inj hF
      replace o1 := o1.tr (Tr.relab (j := 10) (b := 5) (by decide)) (fun _ => Tr.relab (by unfold lab; omega))
      replace o10 := o10.relab 5
      replace hw := hw.relab (j := 10) (by decide) 5
      exact Rnd.goes ⟨_, _, hw, hf.sub ⟨rfl, rfl, rfl, rfl, trivial⟩, o1, o10⟩
    refine c_iff hf rfl hb32 <| c_skip <| n_then <| c_seq ?_
    obtain ⟨hc33, hF⟩ := of_guard hF
    obtain ⟨hc35, hF⟩ := of_guard hF
    replace hf : Fr 137 a [(0, vI a0), (5, vv5), (8, vI s18), (9, .pointer (some ((⟨g21, 0, none⟩ : Addr).add 0))), (10, vI x30)] := hf.sub ⟨rfl, rfl, rfl, rfl, rfl, trivial⟩
    refine c_stage 18 [17] mixed (by kernel_rfl) (by kernel_rfl) (fun c ρ w => Va ρ w 5 g21 3 ([vI s22]) ∧ (c ≤ 0 → Gd fI64 2 36 ρ w w0.heap.size 1 vv5 f6 s19 s20) ∧ (0 < c → Gd fI64 2 36 ρ w w0.heap.size 1 vv5 f6 (s19.set s18.toNat (gl 0 s19 (w64 (s18 + x30)))) s20)) ?_ [fun c ρ w v => vv5 = v, fun c ρ w v => vI s18 = v, fun c ρ w v => vv5 = v, fun c ρ w v => vI s18 = v, fun c ρ w v => vI x30 = v, fun c ρ w v => vI (w64 (s18 + x30)) = v, fun c ρ w v => vv5 = v, fun c ρ w v => vI s18 = v, fun c ρ w v => vI x30 = v, fun c ρ w v => vI (w64 (s18 + x30)) = v, fun c ρ w v => ∃ ad34, .pointer (some (ad34.add ((w64 (s18 + x30)).toNat * 1))) = v ∧ (gl 0 s19 (w64 (s18 + x30))) < s20.length ∧ (c ≤ 0 → Ce ρ w 1 vv5 s19.length ad34 ((w64 (s18 + x30)).toNat * 1) ([(f6 (gl 0 s19 (w64 (s18 + x30)))).1])), fun c ρ w v => (f6 (gl 0 s19 (w64 (s18 + x30)))).1 = v ∧ (gl 0 s19 (w64 (s18 + x30))) < s20.length, fun c ρ w v => vv5 = v, fun c ρ w v => vI s18 = v, fun c ρ w v => ∃ ad36, .pointer (some (ad36.add (s18.toNat * 1))) = v ∧ (gl 0 s19 s18) < s20.length ∧ (c ≤ 0 → Ce ρ w 1 vv5 s19.length ad36 (s18.toNat * 1) ([(f6 (gl 0 s19 s18)).1])), fun c ρ w v => (f6 (gl 0 s19 s18)).1 = v ∧ (gl 0 s19 s18) < s20.length, fun c ρ w v => ∃ ad37, .pointer (some (ad37.add (s18.toNat * 1))) = v ∧ (gl 0 s19 s18) < s20.length ∧ (c ≤ 0 → Ce ρ w 1 vv5 s19.length ad37 (s18.toNat * 1) ([(f6 (gl 0 s19 s18)).1])), fun _ _ _ _ => True] ?_ hw ⟨o5, (fun _ => o1), (fun h => absurd h (Nat.not_lt_zero _))⟩ hf ?_ ?_
    · intro c ρ w ρ' w' hE hG
      obtain ⟨o5, o1x, o1y⟩ := hG
      exact ⟨o5.ext hE, (fun h => (o1x h).ext hE), (fun h => by obtain o1 := o1y h; exact o1.ext hE)⟩
    · exact LastsS.cons (fun _ _ _ _ _ _ _ h => h) <| LastsS.cons (fun _ _ _ _ _ _ _ h => h) <| LastsS.cons (fun _ _ _ _ _ _ _ h => h) <| LastsS.cons (fun _ _ _ _ _ _ _ h => h) <| LastsS.cons (fun _ _ _ _ _ _ _ h => h) <| LastsS.cons (fun _ _ _ _ _ _ _ h => h) <| LastsS.cons (fun _ _ _ _ _ _ _ h => h) <| LastsS.cons (fun _ _ _ _ _ _ _ h => h) <| LastsS.cons (fun _ _ _ _ _ _ _ h => h) <| LastsS.cons (fun _ _ _ _ _ _ _ h => h) <| LastsS.cons (fun c _ _ _ _ _ hE h => by obtain ⟨ad34, h, hn34, hl34⟩ := h; exact ⟨_, h, hn34, (fun h => (hl34 h).ext hE)⟩) <| LastsS.cons (fun c _ _ _ _ _ hE h => by obtain ⟨h, hn34⟩ := h; exact ⟨h, hn34⟩) <| LastsS.cons (fun _ _ _ _ _ _ _ h => h) <| LastsS.cons (fun _ _ _ _ _ _ _ h => h) <| LastsS.cons (fun c _ _ _ _ _ hE h => by obtain ⟨ad36, h, hn36, hl36⟩ := h; exact ⟨_, h, hn36, (fun h => (hl36 h).ext hE)⟩) <| LastsS.cons (fun c _ _ _ _ _ hE h => by obtain ⟨h, hn36⟩ := h; exact ⟨h, hn36⟩) <| LastsS.cons (fun c _ _ _ _ _ hE h => by obtain ⟨ad37, h, hn37, hl37⟩ := h; exact ⟨_, h, hn37, (fun h => (hl37 h).ext hE)⟩) <| LastsS.cons (fun _ _ _ _ _ _ _ h => h) <| LastsS.nil
    · refine StepsS.float rfl ?_ <| StepsS.float rfl ?_ <| StepsS.float rfl ?_ <| StepsS.float rfl ?_ <| StepsS.float rfl ?_ <| StepsS.float rfl ?_ <| StepsS.float rfl ?_ <| StepsS.float rfl ?_ <| StepsS.float rfl ?_ <| StepsS.float rfl ?_ <| StepsS.float rfl ?_ <| StepsS.float rfl ?_ <| StepsS.float rfl ?_ <| StepsS.float rfl ?_ <| StepsS.float rfl ?_ <| StepsS.float rfl ?_ <| StepsS.float rfl ?_ <| StepsS.main 0 rfl rfl ?_ <| StepsS.nil
      · intro c ρ w a hs hw hG hf hd K hK
        obtain ⟨o5, o1x, o1y⟩ := hG
        have o1 := o1x (hs 0 (by decide) (by kernel_rfl))
        exact dv_ hK hw (wn rfl) (r_move hf rfl) rfl
      · intro c ρ w a hs hw hG hf hd K hK
        obtain ⟨o5, o1x, o1y⟩ := hG
        have o1 := o1x (hs 0 (by decide) (by kernel_rfl))
        exact dv_ hK hw (wn rfl) (r_move hf rfl) rfl
      · intro c ρ w a hs hw hG hf hd K hK
        obtain ⟨o5, o1x, o1y⟩ := hG
        exact dv_ hK hw (wn rfl) (r_move hf rfl) rfl
      · intro c ρ w a hs hw hG hf hd K hK
        obtain ⟨o5, o1x, o1y⟩ := hG
        exact dv_ hK hw (wn rfl) (r_move hf rfl) rfl
      · intro c ρ w a hs hw hG hf hd K hK
        obtain ⟨o5, o1x, o1y⟩ := hG
        exact dv_ hK hw (wn rfl) (r_move hf rfl) rfl
      · intro c ρ w a hs hw hG hf hd K hK
        obtain ⟨o5, o1x, o1y⟩ := hG
        obtain ⟨_, ht3, rfl⟩ := hd 3 (by kernel_rfl) (by kernel_rfl)
        replace hf := hf.more ht3
        obtain ⟨_, ht4, rfl⟩ := hd 4 (by kernel_rfl) (by kernel_rfl)
        replace hf := hf.more ht4
        exact dv_ hK hw (wn rfl) (r_add hf rfl rfl) rfl
      · intro c ρ w a hs hw hG hf hd K hK
        obtain ⟨o5, o1x, o1y⟩ := hG
        have o1 := o1x (hs 0 (by decide) (by kernel_rfl))
        exact dv_ hK hw (wn rfl) (r_move hf rfl) rfl
      · intro c ρ w a hs hw hG hf hd K hK
        obtain ⟨o5, o1x, o1y⟩ := hG
        have o1 := o1x (hs 0 (by decide) (by kernel_rfl))
        exact dv_ hK hw (wn rfl) (r_move hf rfl) rfl
      · intro c ρ w a hs hw hG hf hd K hK
        obtain ⟨o5, o1x, o1y⟩ := hG
        have o1 := o1x (hs 0 (by decide) (by kernel_rfl))
        exact dv_ hK hw (wn rfl) (r_move hf rfl) rfl
      · intro c ρ w a hs hw hG hf hd K hK
        obtain ⟨o5, o1x, o1y⟩ := hG
        have o1 := o1x (hs 0 (by decide) (by kernel_rfl))
        obtain ⟨_, ht7, rfl⟩ := hd 7 (by kernel_rfl) (by kernel_rfl)
        replace hf := hf.more ht7
        obtain ⟨_, ht8, rfl⟩ := hd 8 (by kernel_rfl) (by kernel_rfl)
        replace hf := hf.more ht8
        exact dv_ hK hw (wn rfl) (r_add hf rfl rfl) rfl
      · intro c ρ w a hs hw hG hf hd K hK
        obtain ⟨o5, o1x, o1y⟩ := hG
        have o1 := o1x (hs 0 (by decide) (by kernel_rfl))
        obtain ⟨_, ht6, rfl⟩ := hd 6 (by kernel_rfl) (by kernel_rfl)
        replace hf := hf.more ht6
        obtain ⟨_, ht9, rfl⟩ := hd 9 (by kernel_rfl) (by kernel_rfl)
        replace hf := hf.more ht9
        obtain ⟨ad34, hl34⟩ := Ow.ce (d := fRef f6) o1.out 0 hc33.1 hc33.2
        have hn34 := o1.lt_gl hc33.1 hc33.2
        exact dv_ hK hw (wn rfl) (r_idx Try.underlying24 sz36 hf rfl hl34.at_ rfl hc33.1 hc33.2) (ex_ <| an_ rfl <| an_ hn34 <| fun _ => hl34)
      · intro c ρ w a hs hw hG hf hd K hK
        obtain ⟨o5, o1x, o1y⟩ := hG
        have o1 := o1x (hs 0 (by decide) (by kernel_rfl))
        obtain ⟨_, ht10, ⟨ad34, rfl, hn34, hl34⟩⟩ := hd 10 (by kernel_rfl) (by kernel_rfl)
        replace hl34 := hl34 (hs 0 (by decide) (by kernel_rfl))
        replace hf := hf.more ht10
        exact dv_ hK hw (wn rfl) (r_load_cell ty36 hf rfl hl34.co.cl) (an_ rfl <| hn34)
      · intro c ρ w a hs hw hG hf hd K hK
        obtain ⟨o5, o1x, o1y⟩ := hG
        exact dv_ hK hw (wn rfl) (r_move hf rfl) rfl
      · intro c ρ w a hs hw hG hf hd K hK
        obtain ⟨o5, o1x, o1y⟩ := hG
        exact dv_ hK hw (wn rfl) (r_move hf rfl) rfl
      · intro c ρ w a hs hw hG hf hd K hK
        obtain ⟨o5, o1x, o1y⟩ := hG
        have o1 := o1x (hs 0 (by decide) (by kernel_rfl))
        obtain ⟨_, ht12, rfl⟩ := hd 12 (by kernel_rfl) (by kernel_rfl)
        replace hf := hf.more ht12
        obtain ⟨_, ht13, rfl⟩ := hd 13 (by kernel_rfl) (by kernel_rfl)
        replace hf := hf.more ht13
        obtain ⟨ad36, hl36⟩ := Ow.ce (d := fRef f6) o1.out 0 hc35.1 hc35.2
        have hn36 := o1.lt_gl hc35.1 hc35.2
        exact dv_ hK hw (wn rfl) (r_idx Try.underlying24 sz36 hf rfl hl36.at_ rfl hc35.1 hc35.2) (ex_ <| an_ rfl <| an_ hn36 <| fun _ => hl36)
      · intro c ρ w a hs hw hG hf hd K hK
        obtain ⟨o5, o1x, o1y⟩ := hG
        have o1 := o1x (hs 0 (by decide) (by kernel_rfl))
        obtain ⟨_, ht14, ⟨ad36, rfl, hn36, hl36⟩⟩ := hd 14 (by kernel_rfl) (by kernel_rfl)
        replace hl36 := hl36 (hs 0 (by decide) (by kernel_rfl))
        replace hf := hf.more ht14
        exact dv_ hK hw (wn rfl) (r_load_cell ty36 hf rfl hl36.co.cl) (an_ rfl <| hn36)
      · intro c ρ w a hs hw hG hf hd K hK
        obtain ⟨o5, o1x, o1y⟩ := hG
        have o1 := o1x (hs 0 (by decide) (by kernel_rfl))
        obtain ⟨_, ht0, rfl⟩ := hd 0 (by kernel_rfl) (by kernel_rfl)
        replace hf := hf.more ht0
        obtain ⟨_, ht1, rfl⟩ := hd 1 (by kernel_rfl) (by kernel_rfl)
        replace hf := hf.more ht1
        obtain ⟨ad37, hl37⟩ := Ow.ce (d := fRef f6) o1.out 0 hc35.1 hc35.2
        have hn37 := o1.lt_gl hc35.1 hc35.2
        exact dv_ hK hw (wn rfl) (r_idx Try.underlying24 sz36 hf rfl hl37.at_ rfl hc35.1 hc35.2) (ex_ <| an_ rfl <| an_ hn37 <| fun _ => hl37)
      · intro ρ w a S hw hG hf hS hdep hSi K hK
        obtain ⟨o5, o1x, o1y⟩ := hG
        have hfL := hf
        have o1 := o1x (by decide)
        obtain ⟨_, ht11, ⟨rfl, hn34⟩⟩ := hS 11 (by decide) (hdep 11 (by kernel_rfl)) (by kernel_rfl)
        replace hf := hf.more ht11
        obtain ⟨_, ht16, ⟨ad37, rfl, hn37, hl37⟩⟩ := hS 16 (by decide) (hdep 16 (by kernel_rfl)) (by kernel_rfl)
        replace hl37 := hl37 (by decide)
        replace hf := hf.more ht16
        refine m_skip (Γ := fun c ρ w => Va ρ w 5 g21 3 ([vI s22]) ∧ (c ≤ 0 → Gd fI64 2 36 ρ w w0.heap.size 1 vv5 f6 s19 s20) ∧ (0 < c → Gd fI64 2 36 ρ w w0.heap.size 1 vv5 f6 (s19.set s18.toNat (gl 0 s19 (w64 (s18 + x30)))) s20)) (Rl := [fun c ρ w v => vv5 = v, fun c ρ w v => vI s18 = v, fun c ρ w v => vv5 = v, fun c ρ w v => vI s18 = v, fun c ρ w v => vI x30 = v, fun c ρ w v => vI (w64 (s18 + x30)) = v, fun c ρ w v => vv5 = v, fun c ρ w v => vI s18 = v, fun c ρ w v => vI x30 = v, fun c ρ w v => vI (w64 (s18 + x30)) = v, fun c ρ w v => ∃ ad34, .pointer (some (ad34.add ((w64 (s18 + x30)).toNat * 1))) = v ∧ (gl 0 s19 (w64 (s18 + x30))) < s20.length ∧ (c ≤ 0 → Ce ρ w 1 vv5 s19.length ad34 ((w64 (s18 + x30)).toNat * 1) ([(f6 (gl 0 s19 (w64 (s18 + x30)))).1])), fun c ρ w v => (f6 (gl 0 s19 (w64 (s18 + x30)))).1 = v ∧ (gl 0 s19 (w64 (s18 + x30))) < s20.length, fun c ρ w v => vv5 = v, fun c ρ w v => vI s18 = v, fun c ρ w v => ∃ ad36, .pointer (some (ad36.add (s18.toNat * 1))) = v ∧ (gl 0 s19 s18) < s20.length ∧ (c ≤ 0 → Ce ρ w 1 vv5 s19.length ad36 (s18.toNat * 1) ([(f6 (gl 0 s19 s18)).1])), fun c ρ w v => (f6 (gl 0 s19 s18)).1 = v ∧ (gl 0 s19 s18) < s20.length, fun c ρ w v => ∃ ad37, .pointer (some (ad37.add (s18.toNat * 1))) = v ∧ (gl 0 s19 s18) < s20.length ∧ (c ≤ 0 → Ce ρ w 1 vv5 s19.length ad37 (s18.toNat * 1) ([(f6 (gl 0 s19 s18)).1])), fun _ _ _ _ => True]) hfL hS (by kernel_rfl) rfl (wn rfl) (r_gset (p := s18) hw o1 hn34 hc35.1 hc35.2 hl37.at_ ty36 rfl hf rfl rfl) (fun w' hΦ => ?_) hK
        obtain ⟨hw, hA, o1⟩ := hΦ
        replace o5 := o5.adv hA (by decide)
        refine ⟨_, hw, ⟨o5, (fun h => absurd h (by decide)), (fun _ => o1)⟩, ?_⟩
        · exact PassL.cons (fun h => h) <| PassL.cons (fun h => h) <| PassL.cons (fun h => h) <| PassL.cons (fun h => h) <| PassL.cons (fun h => h) <| PassL.cons (fun h => h) <| PassL.cons (fun h => h) <| PassL.cons (fun h => h) <| PassL.cons (fun h => h) <| PassL.cons (fun h => h) <| PassL.cons (fun h => by obtain ⟨_, ht, ad34, h, hn34, hl34⟩ := h; exact ⟨_, ht, _, h, hn34, (fun h => absurd h (by decide))⟩) <| PassL.cons (fun h => by obtain ⟨_, ht, h, hn34⟩ := h; exact ⟨_, ht, h, hn34⟩) <| PassL.cons (fun h => h) <| PassL.cons (fun h => h) <| PassL.cons (fun h => by obtain ⟨_, ht, ad36, h, hn36, hl36⟩ := h; exact ⟨_, ht, _, h, hn36, (fun h => absurd h (by decide))⟩) <| PassL.cons (fun h => by obtain ⟨_, ht, h, hn36⟩ := h; exact ⟨_, ht, h, hn36⟩) <| PassL.cons (fun h => by obtain ⟨_, ht, ad37, h, hn37, hl37⟩ := h; exact ⟨_, ht, _, h, hn37, (fun h => absurd h (by decide))⟩) <| PassL.here <| PassL.nil
    intro ρ w a hw hG hf hd
    obtain ⟨o5, o1x, o1y⟩ := hG
    obtain o1 := o1y (by decide)
    obtain ⟨_, hf, rfl⟩ := got (hd 2 (by decide) (by kernel_rfl)) hf
    obtain ⟨_, hf, rfl⟩ := got (hd 5 (by decide) (by kernel_rfl)) hf
    obtain ⟨_, hf, ⟨rfl, hn36⟩⟩ := got (hd 15 (by decide) (by kernel_rfl)) hf
    obtain ⟨hc38, hF⟩ := of_guard hF
    obtain ⟨ad39, hl39⟩ := Ow.ce (d := fRef f6) o1.out 0 hc38.1 hc38.2
    have hn39 := o1.lt_gl hc38.1 hc38.2
    refine s_ hf (r_idx Try.underlying24 sz36 hf rfl hl39.at_ rfl hc38.1 hc38.2) fun a hf => ?_
    refine sk_ hf (r_gset (p := w64 (s18 + x30)) hw o1 hn36 hc38.1 hc38.2 hl39.at_ ty36 rfl hf rfl rfl) fun a w hf hΦ => ?_
    obtain ⟨hw, hA, o1⟩ := hΦ
    replace o5 := o5.adv hA (by decide)
    refine c_nt <| c_seq ?_
    obtain ⟨hc40, hF⟩ := of_guard hF
    obtain ⟨hc42, hF⟩ := of_guard hF
    replace hf : Fr 137 a [(0, vI a0), (5, vv5), (8, vI s18), (9, .pointer (some ((⟨g21, 0, none⟩ : Addr).add 0)))] := hf.sub ⟨rfl, rfl, rfl, rfl, trivial⟩
    refine c_drawL (h := 8) mixed (by kernel_rfl) (by kernel_rfl) (fun ρ w => Gd fI64 2 36 ρ w w0.heap.size 1 vv5 f6 ((s19.set s18.toNat (gl 0 s19 (w64 (s18 + x30)))).set (w64 (s18 + x30)).toNat (gl 0 s19 s18)) s20 ∧ Va ρ w 5 g21 3 ([vI s22])) ?_ [fun ρ w v => vI a0 = v, fun ρ w v => vv5 = v, fun ρ w v => vI s18 = v, fun ρ w v => ∃ ad41, .pointer (some (ad41.add (s18.toNat * 1))) = v ∧ (gl 0 ((s19.set s18.toNat (gl 0 s19 (w64 (s18 + x30)))).set (w64 (s18 + x30)).toNat (gl 0 s19 s18)) s18) < s20.length ∧ Ce ρ w 1 vv5 (((s19.set s18.toNat (gl 0 s19 (w64 (s18 + x30)))).set (w64 (s18 + x30)).toNat (gl 0 s19 s18)).length) ad41 (s18.toNat * 1) ([(f6 (gl 0 ((s19.set s18.toNat (gl 0 s19 (w64 (s18 + x30)))).set (w64 (s18 + x30)).toNat (gl 0 s19 s18)) s18)).1]), fun ρ w v => (f6 (gl 0 ((s19.set s18.toNat (gl 0 s19 (w64 (s18 + x30)))).set (w64 (s18 + x30)).toNat (gl 0 s19 s18)) s18)).1 = v ∧ (gl 0 ((s19.set s18.toNat (gl 0 s19 (w64 (s18 + x30)))).set (w64 (s18 + x30)).toNat (gl 0 s19 s18)) s18) < s20.length, fun ρ w v => vI s22 = v, fun ρ w v => ∃ ad43, .pointer (some (ad43.add (s22.toNat * 1))) = v ∧ Ce ρ w (lab 1 (gl 0 ((s19.set s18.toNat (gl 0 s19 (w64 (s18 + x30)))).set (w64 (s18 + x30)).toNat (gl 0 s19 s18)) s18)) ((f6 (gl 0 ((s19.set s18.toNat (gl 0 s19 (w64 (s18 + x30)))).set (w64 (s18 + x30)).toNat (gl 0 s19 s18)) s18)).1) ((s20.getD (gl 0 ((s19.set s18.toNat (gl 0 s19 (w64 (s18 + x30)))).set (w64 (s18 + x30)).toNat (gl 0 s19 s18)) s18) []).length) ad43 (s22.toNat * 1) (fI64.enc (gl 0 (s20.getD (gl 0 ((s19.set s18.toNat (gl 0 s19 (w64 (s18 + x30)))).set (w64 (s18 + x30)).toNat (gl 0 s19 s18)) s18) []) s22)), fun ρ w v => vI (gl 0 (s20.getD (gl 0 ((s19.set s18.toNat (gl 0 s19 (w64 (s18 + x30)))).set (w64 (s18 + x30)).toNat (gl 0 s19 s18)) s18) []) s22) = v] ?_ hw ⟨o1, o5⟩ hf ?_ ?_
    · intro ρ w ρ' w' hE hG
      obtain ⟨o1, o5⟩ := hG
      exact ⟨o1.ext hE, o5.ext hE⟩
    · exact LastsL.cons (fun _ _ _ _ _ _ h => h) <| LastsL.cons (fun _ _ _ _ _ _ h => h) <| LastsL.cons (fun _ _ _ _ _ _ h => h) <| LastsL.cons (fun _ _ _ _ _ hE h => by obtain ⟨ad41, h, hn41, hl41⟩ := h; exact ⟨_, h, hn41, hl41.ext hE⟩) <| LastsL.cons (fun _ _ _ _ _ hE h => by obtain ⟨h, hn41⟩ := h; exact ⟨h, hn41⟩) <| LastsL.cons (fun _ _ _ _ _ _ h => h) <| LastsL.cons (fun _ _ _ _ _ hE h => by obtain ⟨ad43, h, hl43⟩ := h; exact ⟨_, h, hl43.ext hE⟩) <| LastsL.cons (fun _ _ _ _ _ _ h => h) <| LastsL.nil
    · refine StepsB.cons ?_ <| StepsB.cons ?_ <| StepsB.cons ?_ <| StepsB.cons ?_ <| StepsB.cons ?_ <| StepsB.cons ?_ <| StepsB.cons ?_ <| StepsB.cons ?_ <| StepsB.nil
      · intro ρ w a hw hG hf hd K hK
        obtain ⟨o1, o5⟩ := hG
        exact dv_ hK hw (wn rfl) (r_move hf rfl) rfl
      · intro ρ w a hw hG hf hd K hK
        obtain ⟨o1, o5⟩ := hG
        exact dv_ hK hw (wn rfl) (r_move hf rfl) rfl
      · intro ρ w a hw hG hf hd K hK
        obtain ⟨o1, o5⟩ := hG
        exact dv_ hK hw (wn rfl) (r_move hf rfl) rfl
      · intro ρ w a hw hG hf hd K hK
        obtain ⟨o1, o5⟩ := hG
        obtain ⟨_, hf, rfl⟩ := got (hd 1 (by kernel_rfl)) hf
        obtain ⟨_, hf, rfl⟩ := got (hd 2 (by kernel_rfl)) hf
        obtain ⟨ad41, hl41⟩ := Ow.ce (d := fRef f6) o1.out 0 hc40.1 hc40.2
        have hn41 := o1.lt_gl hc40.1 hc40.2
        exact dv_ hK hw (wn rfl) (r_idx Try.underlying24 sz36 hf rfl hl41.at_ rfl hc40.1 hc40.2) (ex_ <| an_ rfl <| an_ hn41 <| hl41)
      · intro ρ w a hw hG hf hd K hK
        obtain ⟨o1, o5⟩ := hG
        obtain ⟨_, hf, ⟨ad41, rfl, hn41, hl41⟩⟩ := got (hd 3 (by kernel_rfl)) hf
        exact dv_ hK hw (wn rfl) (r_load_cell ty36 hf rfl hl41.co.cl) (an_ rfl <| hn41)
      · intro ρ w a hw hG hf hd K hK
        obtain ⟨o1, o5⟩ := hG
        exact dv_ hK hw (wn rfl) (r_load_cell ty3 hf rfl o5.cl) rfl
      · intro ρ w a hw hG hf hd K hK
        obtain ⟨o1, o5⟩ := hG
        obtain ⟨_, hf, ⟨rfl, hn41⟩⟩ := got (hd 4 (by kernel_rfl)) hf
        obtain ⟨_, hf, rfl⟩ := got (hd 5 (by kernel_rfl)) hf
        obtain ⟨ad43, hl43⟩ := Ow.ce (d := fI64) (o1.rowAt hn41) 0 hc42.1 hc42.2
        exact dv_ hK hw (wn rfl) (r_idx Try.underlying36 sz2 hf rfl hl43.at_ rfl hc42.1 hc42.2) (ex_ <| an_ rfl <| hl43)
      · intro ρ w a hw hG hf hd K hK
        obtain ⟨o1, o5⟩ := hG
        obtain ⟨_, hf, ⟨ad43, rfl, hl43⟩⟩ := got (hd 6 (by kernel_rfl)) hf
        exact dv_ hK hw (wn rfl) (r_load_cell ty2 hf rfl hl43.co.cl) rfl
    intro ρ w a hw hG hf hd
    obtain ⟨o1, o5⟩ := hG
    obtain ⟨_, hf, rfl⟩ := got (hd 0 (by decide)) hf
    obtain ⟨_, hf, rfl⟩ := got (hd 7 (by decide)) hf
    obtain ⟨x44, hx45, hF⟩ := of_bind hF
    refine st_fn 22 hw hf rfl rfl (by decide) (r_fn en110 hf rfl) (impl_inverse_ok  hx45) fun a v w ρ hf hw hE hN hΦ => ?_
    obtain rfl := hΦ
    replace o1 := o1.ext hE
    replace o5 := o5.ext hE
    refine s_ hf (r_assign hf rfl) fun a hf => ?_
    refine c_nt <| c_seq <| c_seq <| c_region ?_
    refine s_ hf (r_move hf rfl) fun a hf => ?_
    refine s_ hf (r_add hf rfl rfl) fun a hf => ?_
    refine s_ hf (r_assign hf rfl) fun a hf => ?_
    refine c_nt ?_
    obtain ⟨ol46, ho46, hG46⟩ := of_bind hF
    clear hF
    refine c_block (c_loop (id := 4) (fun s => impl_rank_l46 a0 s18 s19 s22 x30 x44 s.1 s.2) (fun (s : Int × (List (List Int))) a w => match s with | (s47, s48) => ∃ ρ, Wd w0 ρ w ∧ Fr 137 a [(0, vI a0), (5, vv5), (8, vI s18), (9, .pointer (some ((⟨g21, 0, none⟩ : Addr).add 0))), (11, vI x44), (12, vI s47)] ∧ Gd fI64 2 36 ρ w w0.heap.size 1 vv5 f6 ((s19.set s18.toNat (gl 0 s19 (w64 (s18 + x30)))).set (w64 (s18 + x30)).toNat (gl 0 s19 s18)) s48 ∧ Va ρ w 5 g21 3 ([vI s22])) (fun (s : Int × (List (List Int))) a w => match s with | (s47, s48) => ∃ ρ, Wd w0 ρ w ∧ Fr 137 a [(0, vI a0), (5, vv5), (8, vI s18), (9, .pointer (some ((⟨g21, 0, none⟩ : Addr).add 0)))] ∧ Gd fI64 2 36 ρ w w0.heap.size 1 vv5 f6 ((s19.set s18.toNat (gl 0 s19 (w64 (s18 + x30)))).set (w64 (s18 + x30)).toNat (gl 0 s19 s18)) s48 ∧ Va ρ w 5 g21 3 ([vI s22])) ho46 ⟨_, hw, hf.sub ⟨rfl, rfl, rfl, rfl, rfl, rfl, trivial⟩, o1, o5⟩ ?_ ?_)
    · rintro ⟨s47, s48⟩ lr a w ⟨ρ, hw, hf, o1, o5⟩ hF
      replace hF : impl_rank_l46 a0 s18 s19 s22 x30 x44 s47 s48 = some lr := hF
      unfold impl_rank_l46 at hF
      refine c_seq <| c_seq <| c_region ?_
      refine s_ hf (r_move hf rfl) fun a hf => ?_
      refine s_ hf (r_move hf rfl) fun a hf => ?_
      refine s_ hf (r_len Try.underlying24 o1.out.ro hf rfl) fun a hf => ?_
      refine s_ hf (r_lss hf rfl rfl) fun a hf => ?_
      refine c_nt ?_
      rcases of_ite hF with ⟨hb49, hF⟩ | ⟨hb49, hF⟩
      rotate_left
      · refine c_iff hf rfl hb49 <| c_exit <| x_then ?_
        obtain rfl := Option.some.inj hF
        exact Rnd.stops ⟨_, hw, hf.sub ⟨rfl, rfl, rfl, rfl, trivial⟩, o1, o5⟩
      refine c_ift hf rfl hb49 <| c_skip <| n_then <| c_seq <| c_block <| c_seq ?_
      obtain ⟨hc50, hF⟩ := of_guard hF
      obtain ⟨hc52, hF⟩ := of_guard hF
      replace hf : Fr 137 a [(0, vI a0), (5, vv5), (8, vI s18), (9, .pointer (some ((⟨g21, 0, none⟩ : Addr).add 0))), (11, vI x44), (12, vI s47)] := hf.sub ⟨rfl, rfl, rfl, rfl, rfl, rfl, trivial⟩
      refine c_drawL (h := 10) mixed (by kernel_rfl) (by kernel_rfl) (fun ρ w => Gd fI64 2 36 ρ w w0.heap.size 1 vv5 f6 ((s19.set s18.toNat (gl 0 s19 (w64 (s18 + x30)))).set (w64 (s18 + x30)).toNat (gl 0 s19 s18)) s48 ∧ Va ρ w 5 g21 3 ([vI s22])) ?_ [fun ρ w v => vv5 = v, fun ρ w v => vI s47 = v, fun ρ w v => ∃ ad51, .pointer (some (ad51.add (s47.toNat * 1))) = v ∧ (gl 0 ((s19.set s18.toNat (gl 0 s19 (w64 (s18 + x30)))).set (w64 (s18 + x30)).toNat (gl 0 s19 s18)) s47) < s48.length ∧ Ce ρ w 1 vv5 (((s19.set s18.toNat (gl 0 s19 (w64 (s18 + x30)))).set (w64 (s18 + x30)).toNat (gl 0 s19 s18)).length) ad51 (s47.toNat * 1) ([(f6 (gl 0 ((s19.set s18.toNat (gl 0 s19 (w64 (s18 + x30)))).set (w64 (s18 + x30)).toNat (gl 0 s19 s18)) s47)).1]), fun ρ w v => (f6 (gl 0 ((s19.set s18.toNat (gl 0 s19 (w64 (s18 + x30)))).set (w64 (s18 + x30)).toNat (gl 0 s19 s18)) s47)).1 = v ∧ (gl 0 ((s19.set s18.toNat (gl 0 s19 (w64 (s18 + x30)))).set (w64 (s18 + x30)).toNat (gl 0 s19 s18)) s47) < s48.length, fun ρ w v => vI s22 = v, fun ρ w v => ∃ ad53, .pointer (some (ad53.add (s22.toNat * 1))) = v ∧ Ce ρ w (lab 1 (gl 0 ((s19.set s18.toNat (gl 0 s19 (w64 (s18 + x30)))).set (w64 (s18 + x30)).toNat (gl 0 s19 s18)) s47)) ((f6 (gl 0 ((s19.set s18.toNat (gl 0 s19 (w64 (s18 + x30)))).set (w64 (s18 + x30)).toNat (gl 0 s19 s18)) s47)).1) ((s48.getD (gl 0 ((s19.set s18.toNat (gl 0 s19 (w64 (s18 + x30)))).set (w64 (s18 + x30)).toNat (gl 0 s19 s18)) s47) []).length) ad53 (s22.toNat * 1) (fI64.enc (gl 0 (s48.getD (gl 0 ((s19.set s18.toNat (gl 0 s19 (w64 (s18 + x30)))).set (w64 (s18 + x30)).toNat (gl 0 s19 s18)) s47) []) s22)), fun ρ w v => vI (gl 0 (s48.getD (gl 0 ((s19.set s18.toNat (gl 0 s19 (w64 (s18 + x30)))).set (w64 (s18 + x30)).toNat (gl 0 s19 s18)) s47) []) s22) = v, fun ρ w v => vI x44 = v, fun ρ w v => vI (w64 ((gl 0 (s48.getD (gl 0 ((s19.set s18.toNat (gl 0 s19 (w64 (s18 + x30)))).set (w64 (s18 + x30)).toNat (gl 0 s19 s18)) s47) []) s22) * x44)) = v, fun ρ w v => vI a0 = v] ?_ hw ⟨o1, o5⟩ hf ?_ ?_
      · intro ρ w ρ' w' hE hG
        obtain ⟨o1, o5⟩ := hG
        exact ⟨o1.ext hE, o5.ext hE⟩
      · exact LastsL.cons (fun _ _ _ _ _ _ h => h) <| LastsL.cons (fun _ _ _ _ _ _ h => h) <| LastsL.cons (fun _ _ _ _ _ hE h => by obtain ⟨ad51, h, hn51, hl51⟩ := h; exact ⟨_, h, hn51, hl51.ext hE⟩) <| LastsL.cons (fun _ _ _ _ _ hE h => by obtain ⟨h, hn51⟩ := h; exact ⟨h, hn51⟩) <| LastsL.cons (fun _ _ _ _ _ _ h => h) <| LastsL.cons (fun _ _ _ _ _ hE h => by obtain ⟨ad53, h, hl53⟩ := h; exact ⟨_, h, hl53.ext hE⟩) <| LastsL.cons (fun _ _ _ _ _ _ h => h) <| LastsL.cons (fun _ _ _ _ _ _ h => h) <| LastsL.cons (fun _ _ _ _ _ _ h => h) <| LastsL.cons (fun _ _ _ _ _ _ h => h) <| LastsL.nil
      · refine StepsB.cons ?_ <| StepsB.cons ?_ <| StepsB.cons ?_ <| StepsB.cons ?_ <| StepsB.cons ?_ <| StepsB.cons ?_ <| StepsB.cons ?_ <| StepsB.cons ?_ <| StepsB.cons ?_ <| StepsB.cons ?_ <| StepsB.nil
        · intro ρ w a hw hG hf hd K hK
          obtain ⟨o1, o5⟩ := hG
          exact dv_ hK hw (wn rfl) (r_move hf rfl) rfl
        · intro ρ w a hw hG hf hd K hK
          obtain ⟨o1, o5⟩ := hG
          exact dv_ hK hw (wn rfl) (r_move hf rfl) rfl
        · intro ρ w a hw hG hf hd K hK
          obtain ⟨o1, o5⟩ := hG
          obtain ⟨_, hf, rfl⟩ := got (hd 0 (by kernel_rfl)) hf
          obtain ⟨_, hf, rfl⟩ := got (hd 1 (by kernel_rfl)) hf
          obtain ⟨ad51, hl51⟩ := Ow.ce (d := fRef f6) o1.out 0 hc50.1 hc50.2
          have hn51 := o1.lt_gl hc50.1 hc50.2
          exact dv_ hK hw (wn rfl) (r_idx Try.underlying24 sz36 hf rfl hl51.at_ rfl hc50.1 hc50.2) (ex_ <| an_ rfl <| an_ hn51 <| hl51)
        · intro ρ w a hw hG hf hd K hK
          obtain ⟨o1, o5⟩ := hG
          obtain ⟨_, hf, ⟨ad51, rfl, hn51, hl51⟩⟩ := got (hd 2 (by kernel_rfl)) hf
          exact dv_ hK hw (wn rfl) (r_load_cell ty36 hf rfl hl51.co.cl) (an_ rfl <| hn51)
        · intro ρ w a hw hG hf hd K hK
          obtain ⟨o1, o5⟩ := hG
          exact dv_ hK hw (wn rfl) (r_load_cell ty3 hf rfl o5.cl) rfl
        · intro ρ w a hw hG hf hd K hK
          obtain ⟨o1, o5⟩ := hG
          obtain ⟨_, hf, ⟨rfl, hn51⟩⟩ := got (hd 3 (by kernel_rfl)) hf
          obtain ⟨_, hf, rfl⟩ := got (hd 4 (by kernel_rfl)) hf
          obtain ⟨ad53, hl53⟩ := Ow.ce (d := fI64) (o1.rowAt hn51) 0 hc52.1 hc52.2
          exact dv_ hK hw (wn rfl) (r_idx Try.underlying36 sz2 hf rfl hl53.at_ rfl hc52.1 hc52.2) (ex_ <| an_ rfl <| hl53)
        · intro ρ w a hw hG hf hd K hK
          obtain ⟨o1, o5⟩ := hG
          obtain ⟨_, hf, ⟨ad53, rfl, hl53⟩⟩ := got (hd 5 (by kernel_rfl)) hf
          exact dv_ hK hw (wn rfl) (r_load_cell ty2 hf rfl hl53.co.cl) rfl
        · intro ρ w a hw hG hf hd K hK
          obtain ⟨o1, o5⟩ := hG
          exact dv_ hK hw (wn rfl) (r_move hf rfl) rfl
        · intro ρ w a hw hG hf hd K hK
          obtain ⟨o1, o5⟩ := hG
          obtain ⟨_, hf, rfl⟩ := got (hd 6 (by kernel_rfl)) hf
          obtain ⟨_, hf, rfl⟩ := got (hd 7 (by kernel_rfl)) hf
          exact dv_ hK hw (wn rfl) (r_mul hf rfl rfl) rfl
        · intro ρ w a hw hG hf hd K hK
          obtain ⟨o1, o5⟩ := hG
          exact dv_ hK hw (wn rfl) (r_move hf rfl) rfl
      intro ρ w a hw hG hf hd
      obtain ⟨o1, o5⟩ := hG
      obtain ⟨_, hf, rfl⟩ := got (hd 8 (by decide)) hf
      obtain ⟨_, hf, rfl⟩ := got (hd 9 (by decide)) hf
      obtain ⟨hc54, hF⟩ := of_guard hF
      refine s_ hf (r_rem hf rfl rfl hc54) fun a hf => ?_
      refine s_ hf (r_assign hf rfl) fun a hf => ?_
      refine c_nt <| c_seq <| c_region ?_
      refine s_ hf (r_move hf rfl) fun a hf => ?_
      refine s_ hf (r_move hf rfl) fun a hf => ?_
      obtain ⟨ad55, hl55⟩ := Ow.ce (d := fRef f6) o1.out 0 hc50.1 hc50.2
      have hn55 := o1.lt_gl hc50.1 hc50.2
      refine s_ hf (r_idx Try.underlying24 sz36 hf rfl hl55.at_ rfl hc50.1 hc50.2) fun a hf => ?_
      refine s_ hf (r_load_cell ty36 hf rfl hl55.co.cl) fun a hf => ?_
      refine s_ hf (r_len Try.underlying36 ((o1.rowAt hn55).ro) hf rfl) fun a hf => ?_
      refine s_ hf (r_move hf rfl) fun a hf => ?_
      refine c_nt ?_
      obtain ⟨ol56, ho56, hG56⟩ := of_bind hF
      clear hF
      refine c_block (c_loop (id := 6) (fun s => impl_rank_l56 a0 s18 s19 s22 x30 x44 s47 s48 s.1 s.2) (fun (s : Int × (List (List Int))) a w => match s with | (s57, s58) => ∃ ρ, Wd w0 ρ w ∧ Fr 137 a [(0, vI a0), (5, vv5), (8, vI s18), (9, .pointer (some ((⟨g21, 0, none⟩ : Addr).add 0))), (11, vI x44), (12, vI s47), (13, vI ((w64 ((gl 0 (s48.getD (gl 0 ((s19.set s18.toNat (gl 0 s19 (w64 (s18 + x30)))).set (w64 (s18 + x30)).toNat (gl 0 s19 s18)) s47) []) s22) * x44)).tmod a0)), (99, vI ((s48.getD (gl 0 ((s19.set s18.toNat (gl 0 s19 (w64 (s18 + x30)))).set (w64 (s18 + x30)).toNat (gl 0 s19 s18)) s47) []).length : Int)), (100, vI s57)] ∧ Gd fI64 2 36 ρ w w0.heap.size 1 vv5 f6 ((s19.set s18.toNat (gl 0 s19 (w64 (s18 + x30)))).set (w64 (s18 + x30)).toNat (gl 0 s19 s18)) s58 ∧ Va ρ w 5 g21 3 ([vI s22])) (fun (s : Int × (List (List Int))) a w => match s with | (s57, s58) => ∃ ρ, Wd w0 ρ w ∧ Fr 137 a [(0, vI a0), (5, vv5), (8, vI s18), (9, .pointer (some ((⟨g21, 0, none⟩ : Addr).add 0))), (11, vI x44), (12, vI s47)] ∧ Gd fI64 2 36 ρ w w0.heap.size 1 vv5 f6 ((s19.set s18.toNat (gl 0 s19 (w64 (s18 + x30)))).set (w64 (s18 + x30)).toNat (gl 0 s19 s18)) s58 ∧ Va ρ w 5 g21 3 ([vI s22])) ho56 ⟨_, hw, hf.sub ⟨rfl, rfl, rfl, rfl, rfl, rfl, rfl, rfl, rfl, trivial⟩, o1, o5⟩ ?_ ?_)
      · rintro ⟨s57, s58⟩ lr a w ⟨ρ, hw, hf, o1, o5⟩ hF
        replace hF : impl_rank_l56 a0 s18 s19 s22 x30 x44 s47 s48 s57 s58 = some lr := hF
        unfold impl_rank_l56 at hF
        refine c_seq <| c_region ?_
        refine s_ hf (r_lss hf rfl rfl) fun a hf => ?_
        refine c_nt <| c_seq ?_
        rcases of_ite hF with ⟨hb59, hF⟩ | ⟨hb59, hF⟩
        rotate_left
        · refine c_iff hf rfl hb59 <| c_exit <| x_then ?_
          obtain rfl := Option.some.inj hF
          exact Rnd.stops ⟨_, hw, hf.sub ⟨rfl, rfl, rfl, rfl, rfl, rfl, trivial⟩, o1, o5⟩
        refine c_ift hf rfl hb59 <| c_skip <| n_then <| c_seq <| c_block <| c_seq <| c_region ?_
        refine s_ hf (r_move hf rfl) fun a hf => ?_
        refine s_ hf (r_assign hf rfl) fun a hf => ?_
        refine c_nt ?_
        obtain ⟨hc62, hF⟩ := of_guard hF
        obtain ⟨hc65, hF⟩ := of_guard hF
        replace hf : Fr 137 a [(0, vI a0), (5, vv5), (8, vI s18), (9, .pointer (some ((⟨g21, 0, none⟩ : Addr).add 0))), (11, vI x44), (12, vI s47), (13, vI ((w64 ((gl 0 (s48.getD (gl 0 ((s19.set s18.toNat (gl 0 s19 (w64 (s18 + x30)))).set (w64 (s18 + x30)).toNat (gl 0 s19 s18)) s47) []) s22) * x44)).tmod a0)), (14, vI s57), (99, vI ((s48.getD (gl 0 ((s19.set s18.toNat (gl 0 s19 (w64 (s18 + x30)))).set (w64 (s18 + x30)).toNat (gl 0 s19 s18)) s47) []).length : Int)), (100, vI s57)] := hf.sub ⟨rfl, rfl, rfl, rfl, rfl, rfl, rfl, rfl, rfl, rfl, trivial⟩
        refine c_drawL (h := 28) mixed (by kernel_rfl) (by kernel_rfl) (fun ρ w => Gd fI64 2 36 ρ w w0.heap.size 1 vv5 f6 ((s19.set s18.toNat (gl 0 s19 (w64 (s18 + x30)))).set (w64 (s18 + x30)).toNat (gl 0 s19 s18)) s58 ∧ Va ρ w 5 g21 3 ([vI s22])) ?_ [fun ρ w v => vv5 = v, fun ρ w v => vI s47 = v, fun ρ w v => ∃ ad60, .pointer (some (ad60.add (s47.toNat * 1))) = v ∧ (gl 0 ((s19.set s18.toNat (gl 0 s19 (w64 (s18 + x30)))).set (w64 (s18 + x30)).toNat (gl 0 s19 s18)) s47) < s58.length ∧ Ce ρ w 1 vv5 (((s19.set s18.toNat (gl 0 s19 (w64 (s18 + x30)))).set (w64 (s18 + x30)).toNat (gl 0 s19 s18)).length) ad60 (s47.toNat * 1) ([(f6 (gl 0 ((s19.set s18.toNat (gl 0 s19 (w64 (s18 + x30)))).set (w64 (s18 + x30)).toNat (gl 0 s19 s18)) s47)).1]), fun ρ w v => (f6 (gl 0 ((s19.set s18.toNat (gl 0 s19 (w64 (s18 + x30)))).set (w64 (s18 + x30)).toNat (gl 0 s19 s18)) s47)).1 = v ∧ (gl 0 ((s19.set s18.toNat (gl 0 s19 (w64 (s18 + x30)))).set (w64 (s18 + x30)).toNat (gl 0 s19 s18)) s47) < s58.length, fun ρ w v => vI s57 = v, fun ρ w v => vv5 = v, fun ρ w v => vI s47 = v, fun ρ w v => ∃ ad61, .pointer (some (ad61.add (s47.toNat * 1))) = v ∧ (gl 0 ((s19.set s18.toNat (gl 0 s19 (w64 (s18 + x30)))).set (w64 (s18 + x30)).toNat (gl 0 s19 s18)) s47) < s58.length ∧ Ce ρ w 1 vv5 (((s19.set s18.toNat (gl 0 s19 (w64 (s18 + x30)))).set (w64 (s18 + x30)).toNat (gl 0 s19 s18)).length) ad61 (s47.toNat * 1) ([(f6 (gl 0 ((s19.set s18.toNat (gl 0 s19 (w64 (s18 + x30)))).set (w64 (s18 + x30)).toNat (gl 0 s19 s18)) s47)).1]), fun ρ w v => (f6 (gl 0 ((s19.set s18.toNat (gl 0 s19 (w64 (s18 + x30)))).set (w64 (s18 + x30)).toNat (gl 0 s19 s18)) s47)).1 = v ∧ (gl 0 ((s19.set s18.toNat (gl 0 s19 (w64 (s18 + x30)))).set (w64 (s18 + x30)).toNat (gl 0 s19 s18)) s47) < s58.length, fun ρ w v => vI s57 = v, fun ρ w v => ∃ ad63, .pointer (some (ad63.add (s57.toNat * 1))) = v ∧ Ce ρ w (lab 1 (gl 0 ((s19.set s18.toNat (gl 0 s19 (w64 (s18 + x30)))).set (w64 (s18 + x30)).toNat (gl 0 s19 s18)) s47)) ((f6 (gl 0 ((s19.set s18.toNat (gl 0 s19 (w64 (s18 + x30)))).set (w64 (s18 + x30)).toNat (gl 0 s19 s18)) s47)).1) ((s58.getD (gl 0 ((s19.set s18.toNat (gl 0 s19 (w64 (s18 + x30)))).set (w64 (s18 + x30)).toNat (gl 0 s19 s18)) s47) []).length) ad63 (s57.toNat * 1) (fI64.enc (gl 0 (s58.getD (gl 0 ((s19.set s18.toNat (gl 0 s19 (w64 (s18 + x30)))).set (w64 (s18 + x30)).toNat (gl 0 s19 s18)) s47) []) s57)), fun ρ w v => vI (gl 0 (s58.getD (gl 0 ((s19.set s18.toNat (gl 0 s19 (w64 (s18 + x30)))).set (w64 (s18 + x30)).toNat (gl 0 s19 s18)) s47) []) s57) = v, fun ρ w v => vI ((w64 ((gl 0 (s48.getD (gl 0 ((s19.set s18.toNat (gl 0 s19 (w64 (s18 + x30)))).set (w64 (s18 + x30)).toNat (gl 0 s19 s18)) s47) []) s22) * x44)).tmod a0) = v, fun ρ w v => vv5 = v, fun ρ w v => vI s18 = v, fun ρ w v => ∃ ad64, .pointer (some (ad64.add (s18.toNat * 1))) = v ∧ (gl 0 ((s19.set s18.toNat (gl 0 s19 (w64 (s18 + x30)))).set (w64 (s18 + x30)).toNat (gl 0 s19 s18)) s18) < s58.length ∧ Ce ρ w 1 vv5 (((s19.set s18.toNat (gl 0 s19 (w64 (s18 + x30)))).set (w64 (s18 + x30)).toNat (gl 0 s19 s18)).length) ad64 (s18.toNat * 1) ([(f6 (gl 0 ((s19.set s18.toNat (gl 0 s19 (w64 (s18 + x30)))).set (w64 (s18 + x30)).toNat (gl 0 s19 s18)) s18)).1]), fun ρ w v => (f6 (gl 0 ((s19.set s18.toNat (gl 0 s19 (w64 (s18 + x30)))).set (w64 (s18 + x30)).toNat (gl 0 s19 s18)) s18)).1 = v ∧ (gl 0 ((s19.set s18.toNat (gl 0 s19 (w64 (s18 + x30)))).set (w64 (s18 + x30)).toNat (gl 0 s19 s18)) s18) < s58.length, fun ρ w v => vI s57 = v, fun ρ w v => ∃ ad66, .pointer (some (ad66.add (s57.toNat * 1))) = v ∧ Ce ρ w (lab 1 (gl 0 ((s19.set s18.toNat (gl 0 s19 (w64 (s18 + x30)))).set (w64 (s18 + x30)).toNat (gl 0 s19 s18)) s18)) ((f6 (gl 0 ((s19.set s18.toNat (gl 0 s19 (w64 (s18 + x30)))).set (w64 (s18 + x30)).toNat (gl 0 s19 s18)) s18)).1) ((s58.getD (gl 0 ((s19.set s18.toNat (gl 0 s19 (w64 (s18 + x30)))).set (w64 (s18 + x30)).toNat (gl 0 s19 s18)) s18) []).length) ad66 (s57.toNat * 1) (fI64.enc (gl 0 (s58.getD (gl 0 ((s19.set s18.toNat (gl 0 s19 (w64 (s18 + x30)))).set (w64 (s18 + x30)).toNat (gl 0 s19 s18)) s18) []) s57)), fun ρ w v => vI (gl 0 (s58.getD (gl 0 ((s19.set s18.toNat (gl 0 s19 (w64 (s18 + x30)))).set (w64 (s18 + x30)).toNat (gl 0 s19 s18)) s18) []) s57) = v, fun ρ w v => vI (w64 (((w64 ((gl 0 (s48.getD (gl 0 ((s19.set s18.toNat (gl 0 s19 (w64 (s18 + x30)))).set (w64 (s18 + x30)).toNat (gl 0 s19 s18)) s47) []) s22) * x44)).tmod a0) * (gl 0 (s58.getD (gl 0 ((s19.set s18.toNat (gl 0 s19 (w64 (s18 + x30)))).set (w64 (s18 + x30)).toNat (gl 0 s19 s18)) s18) []) s57))) = v, fun ρ w v => vI (w64 ((gl 0 (s58.getD (gl 0 ((s19.set s18.toNat (gl 0 s19 (w64 (s18 + x30)))).set (w64 (s18 + x30)).toNat (gl 0 s19 s18)) s47) []) s57) - (w64 (((w64 ((gl 0 (s48.getD (gl 0 ((s19.set s18.toNat (gl 0 s19 (w64 (s18 + x30)))).set (w64 (s18 + x30)).toNat (gl 0 s19 s18)) s47) []) s22) * x44)).tmod a0) * (gl 0 (s58.getD (gl 0 ((s19.set s18.toNat (gl 0 s19 (w64 (s18 + x30)))).set (w64 (s18 + x30)).toNat (gl 0 s19 s18)) s18) []) s57))))) = v, fun ρ w v => vI a0 = v, fun ρ w v => vI ((w64 ((gl 0 (s58.getD (gl 0 ((s19.set s18.toNat (gl 0 s19 (w64 (s18 + x30)))).set (w64 (s18 + x30)).toNat (gl 0 s19 s18)) s47) []) s57) - (w64 (((w64 ((gl 0 (s48.getD (gl 0 ((s19.set s18.toNat (gl 0 s19 (w64 (s18 + x30)))).set (w64 (s18 + x30)).toNat (gl 0 s19 s18)) s47) []) s22) * x44)).tmod a0) * (gl 0 (s58.getD (gl 0 ((s19.set s18.toNat (gl 0 s19 (w64 (s18 + x30)))).set (w64 (s18 + x30)).toNat (gl 0 s19 s18)) s18) []) s57))))).tmod a0) = v, fun ρ w v => vI a0 = v, fun ρ w v => vI (w64 (((w64 ((gl 0 (s58.getD (gl 0 ((s19.set s18.toNat (gl 0 s19 (w64 (s18 + x30)))).set (w64 (s18 + x30)).toNat (gl 0 s19 s18)) s47) []) s57) - (w64 (((w64 ((gl 0 (s48.getD (gl 0 ((s19.set s18.toNat (gl 0 s19 (w64 (s18 + x30)))).set (w64 (s18 + x30)).toNat (gl 0 s19 s18)) s47) []) s22) * x44)).tmod a0) * (gl 0 (s58.getD (gl 0 ((s19.set s18.toNat (gl 0 s19 (w64 (s18 + x30)))).set (w64 (s18 + x30)).toNat (gl 0 s19 s18)) s18) []) s57))))).tmod a0) + a0)) = v, fun ρ w v => vI a0 = v, fun ρ w v => vI ((w64 (((w64 ((gl 0 (s58.getD (gl 0 ((s19.set s18.toNat (gl 0 s19 (w64 (s18 + x30)))).set (w64 (s18 + x30)).toNat (gl 0 s19 s18)) s47) []) s57) - (w64 (((w64 ((gl 0 (s48.getD (gl 0 ((s19.set s18.toNat (gl 0 s19 (w64 (s18 + x30)))).set (w64 (s18 + x30)).toNat (gl 0 s19 s18)) s47) []) s22) * x44)).tmod a0) * (gl 0 (s58.getD (gl 0 ((s19.set s18.toNat (gl 0 s19 (w64 (s18 + x30)))).set (w64 (s18 + x30)).toNat (gl 0 s19 s18)) s18) []) s57))))).tmod a0) + a0)).tmod a0) = v] ?_ hw ⟨o1, o5⟩ hf ?_ ?_
        · intro ρ w ρ' w' hE hG
          obtain ⟨o1, o5⟩ := hG
          exact ⟨o1.ext hE, o5.ext hE⟩
        · exact LastsL.cons (fun _ _ _ _ _ _ h => h) <| LastsL.cons (fun _ _ _ _ _ _ h => h) <| LastsL.cons (fun _ _ _ _ _ hE h => by obtain ⟨ad60, h, hn60, hl60⟩ := h; exact ⟨_, h, hn60, hl60.ext hE⟩) <| LastsL.cons (fun _ _ _ _ _ hE h => by obtain ⟨h, hn60⟩ := h; exact ⟨h, hn60⟩) <| LastsL.cons (fun _ _ _ _ _ _ h => h) <| LastsL.cons (fun _ _ _ _ _ _ h => h) <| LastsL.cons (fun _ _ _ _ _ _ h => h) <| LastsL.cons (fun _ _ _ _ _ hE h => by obtain ⟨ad61, h, hn61, hl61⟩ := h; exact ⟨_, h, hn61, hl61.ext hE⟩) <| LastsL.cons (fun _ _ _ _ _ hE h => by obtain ⟨h, hn61⟩ := h; exact ⟨h, hn61⟩) <| LastsL.cons (fun _ _ _ _ _ _ h => h) <| LastsL.cons (fun _ _ _ _ _ hE h => by obtain ⟨ad63, h, hl63⟩ := h; exact ⟨_, h, hl63.ext hE⟩) <| LastsL.cons (fun _ _ _ _ _ _ h => h) <| LastsL.cons (fun _ _ _ _ _ _ h => h) <| LastsL.cons (fun _ _ _ _ _ _ h => h) <| LastsL.cons (fun _ _ _ _ _ _ h => h) <| LastsL.cons (fun _ _ _ _ _ hE h => by obtain ⟨ad64, h, hn64, hl64⟩ := h; exact ⟨_, h, hn64, hl64.ext hE⟩) <| LastsL.cons (fun _ _ _ _ _ hE h => by obtain ⟨h, hn64⟩ := h; exact ⟨h, hn64⟩) <| LastsL.cons (fun _ _ _ _ _ _ h => h) <| LastsL.cons (fun _ _ _ _ _ hE h => by obtain ⟨ad66, h, hl66⟩ := h; exact ⟨_, h, hl66.ext hE⟩) <| LastsL.cons (fun _ _ _ _ _ _ h => h) <| LastsL.cons (fun _ _ _ _ _ _ h => h) <| LastsL.cons (fun _ _ _ _ _ _ h => h) <| LastsL.cons (fun _ _ _ _ _ _ h => h) <| LastsL.cons (fun _ _ _ _ _ _ h => h) <| LastsL.cons (fun _ _ _ _ _ _ h => h) <| LastsL.cons (fun _ _ _ _ _ _ h => h) <| LastsL.cons (fun _ _ _ _ _ _ h => h) <| LastsL.cons (fun _ _ _ _ _ _ h => h) <| LastsL.nil
        · refine StepsB.cons ?_ <| StepsB.cons ?_ <| StepsB.cons ?_ <| StepsB.cons ?_ <| StepsB.cons ?_ <| StepsB.cons ?_ <| StepsB.cons ?_ <| StepsB.cons ?_ <| StepsB.cons ?_ <| StepsB.cons ?_ <| StepsB.cons ?_ <| StepsB.cons ?_ <| StepsB.cons ?_ <| StepsB.cons ?_ <| StepsB.cons ?_ <| StepsB.cons ?_ <| StepsB.cons ?_ <| StepsB.cons ?_ <| StepsB.cons ?_ <| StepsB.cons ?_ <| StepsB.cons ?_ <| StepsB.cons ?_ <| StepsB.cons ?_ <| StepsB.cons ?_ <| StepsB.cons ?_ <| StepsB.cons ?_ <| StepsB.cons ?_ <| StepsB.cons ?_ <| StepsB.nil
          · intro ρ w a hw hG hf hd K hK
            obtain ⟨o1, o5⟩ := hG
            exact dv_ hK hw (wn rfl) (r_move hf rfl) rfl
          · intro ρ w a hw hG hf hd K hK
            obtain ⟨o1, o5⟩ := hG
            exact dv_ hK hw (wn rfl) (r_move hf rfl) rfl
          · intro ρ w a hw hG hf hd K hK
            obtain ⟨o1, o5⟩ := hG
            obtain ⟨_, hf, rfl⟩ := got (hd 0 (by kernel_rfl)) hf
            obtain ⟨_, hf, rfl⟩ := got (hd 1 (by kernel_rfl)) hf
            obtain ⟨ad60, hl60⟩ := Ow.ce (d := fRef f6) o1.out 0 hc50.1 hc50.2
            have hn60 := o1.lt_gl hc50.1 hc50.2
            exact dv_ hK hw (wn rfl) (r_idx Try.underlying24 sz36 hf rfl hl60.at_ rfl hc50.1 hc50.2) (ex_ <| an_ rfl <| an_ hn60 <| hl60)
          · intro ρ w a hw hG hf hd K hK
            obtain ⟨o1, o5⟩ := hG
            obtain ⟨_, hf, ⟨ad60, rfl, hn60, hl60⟩⟩ := got (hd 2 (by kernel_rfl)) hf
            exact dv_ hK hw (wn rfl) (r_load_cell ty36 hf rfl hl60.co.cl) (an_ rfl <| hn60)
          · intro ρ w a hw hG hf hd K hK
            obtain ⟨o1, o5⟩ := hG
            exact dv_ hK hw (wn rfl) (r_move hf rfl) rfl
          · intro ρ w a hw hG hf hd K hK
            obtain ⟨o1, o5⟩ := hG
            exact dv_ hK hw (wn rfl) (r_move hf rfl) rfl
          · intro ρ w a hw hG hf hd K hK
            obtain ⟨o1, o5⟩ := hG
            exact dv_ hK hw (wn rfl) (r_move hf rfl) rfl
          · intro ρ w a hw hG hf hd K hK
            obtain ⟨o1, o5⟩ := hG
            obtain ⟨_, hf, rfl⟩ := got (hd 5 (by kernel_rfl)) hf
            obtain ⟨_, hf, rfl⟩ := got (hd 6 (by kernel_rfl)) hf
            obtain ⟨ad61, hl61⟩ := Ow.ce (d := fRef f6) o1.out 0 hc50.1 hc50.2
            have hn61 := o1.lt_gl hc50.1 hc50.2
            exact dv_ hK hw (wn rfl) (r_idx Try.underlying24 sz36 hf rfl hl61.at_ rfl hc50.1 hc50.2) (ex_ <| an_ rfl <| an_ hn61 <| hl61)
          · intro ρ w a hw hG hf hd K hK
            obtain ⟨o1, o5⟩ := hG
            obtain ⟨_, hf, ⟨ad61, rfl, hn61, hl61⟩⟩ := got (hd 7 (by kernel_rfl)) hf
            exact dv_ hK hw (wn rfl) (r_load_cell ty36 hf rfl hl61.co.cl) (an_ rfl <| hn61)
          · intro ρ w a hw hG hf hd K hK
            obtain ⟨o1, o5⟩ := hG
            exact dv_ hK hw (wn rfl) (r_move hf rfl) rfl
          · intro ρ w a hw hG hf hd K hK
            obtain ⟨o1, o5⟩ := hG
            obtain ⟨_, hf, ⟨rfl, hn61⟩⟩ := got (hd 8 (by kernel_rfl)) hf
            obtain ⟨_, hf, rfl⟩ := got (hd 9 (by kernel_rfl)) hf
            obtain ⟨ad63, hl63⟩ := Ow.ce (d := fI64) (o1.rowAt hn61) 0 hc62.1 hc62.2
            exact dv_ hK hw (wn rfl) (r_idx Try.underlying36 sz2 hf rfl hl63.at_ rfl hc62.1 hc62.2) (ex_ <| an_ rfl <| hl63)
          · intro ρ w a hw hG hf hd K hK
            obtain ⟨o1, o5⟩ := hG
            obtain ⟨_, hf, ⟨ad63, rfl, hl63⟩⟩ := got (hd 10 (by kernel_rfl)) hf
            exact dv_ hK hw (wn rfl) (r_load_cell ty2 hf rfl hl63.co.cl) rfl
          · intro ρ w a hw hG hf hd K hK
            obtain ⟨o1, o5⟩ := hG
            exact dv_ hK hw (wn rfl) (r_move hf rfl) rfl
          · intro ρ w a hw hG hf hd K hK
            obtain ⟨o1, o5⟩ := hG
            exact dv_ hK hw (wn rfl) (r_move hf rfl) rfl
          · intro ρ w a hw hG hf hd K hK
            obtain ⟨o1, o5⟩ := hG
            exact dv_ hK hw (wn rfl) (r_move hf rfl) rfl
          · intro ρ w a hw hG hf hd K hK
            obtain ⟨o1, o5⟩ := hG
            obtain ⟨_, hf, rfl⟩ := got (hd 13 (by kernel_rfl)) hf
            obtain ⟨_, hf, rfl⟩ := got (hd 14 (by kernel_rfl)) hf
            obtain ⟨ad64, hl64⟩ := Ow.ce (d := fRef f6) o1.out 0 hc40.1 hc40.2
            have hn64 := o1.lt_gl hc40.1 hc40.2
            exact dv_ hK hw (wn rfl) (r_idx Try.underlying24 sz36 hf rfl hl64.at_ rfl hc40.1 hc40.2) (ex_ <| an_ rfl <| an_ hn64 <| hl64)
          · intro ρ w a hw hG hf hd K hK
            obtain ⟨o1, o5⟩ := hG
            obtain ⟨_, hf, ⟨ad64, rfl, hn64, hl64⟩⟩ := got (hd 15 (by kernel_rfl)) hf
            exact dv_ hK hw (wn rfl) (r_load_cell ty36 hf rfl hl64.co.cl) (an_ rfl <| hn64)
          · intro ρ w a hw hG hf hd K hK
            obtain ⟨o1, o5⟩ := hG
            exact dv_ hK hw (wn rfl) (r_move hf rfl) rfl
          · intro ρ w a hw hG hf hd K hK
            obtain ⟨o1, o5⟩ := hG
            obtain ⟨_, hf, ⟨rfl, hn64⟩⟩ := got (hd 16 (by kernel_rfl)) hf
            obtain ⟨_, hf, rfl⟩ := got (hd 17 (by kernel_rfl)) hf
            obtain ⟨ad66, hl66⟩ := Ow.ce (d := fI64) (o1.rowAt hn64) 0 hc65.1 hc65.2
            exact dv_ hK hw (wn rfl) (r_idx Try.underlying36 sz2 hf rfl hl66.at_ rfl hc65.1 hc65.2) (ex_ <| an_ rfl <| hl66)
          · intro ρ w a hw hG hf hd K hK
            obtain ⟨o1, o5⟩ := hG
            obtain ⟨_, hf, ⟨ad66, rfl, hl66⟩⟩ := got (hd 18 (by kernel_rfl)) hf
            exact dv_ hK hw (wn rfl) (r_load_cell ty2 hf rfl hl66.co.cl) rfl
          · intro ρ w a hw hG hf hd K hK
            obtain ⟨o1, o5⟩ := hG
            obtain ⟨_, hf, rfl⟩ := got (hd 12 (by kernel_rfl)) hf
            obtain ⟨_, hf, rfl⟩ := got (hd 19 (by kernel_rfl)) hf
            exact dv_ hK hw (wn rfl) (r_mul hf rfl rfl) rfl
          · intro ρ w a hw hG hf hd K hK
            obtain ⟨o1, o5⟩ := hG
            obtain ⟨_, hf, rfl⟩ := got (hd 11 (by kernel_rfl)) hf
            obtain ⟨_, hf, rfl⟩ := got (hd 20 (by kernel_rfl)) hf
            exact dv_ hK hw (wn rfl) (r_sub hf rfl rfl) rfl
          · intro ρ w a hw hG hf hd K hK
            obtain ⟨o1, o5⟩ := hG
            exact dv_ hK hw (wn rfl) (r_move hf rfl) rfl
          · intro ρ w a hw hG hf hd K hK
            obtain ⟨o1, o5⟩ := hG
            obtain ⟨_, hf, rfl⟩ := got (hd 21 (by kernel_rfl)) hf
            obtain ⟨_, hf, rfl⟩ := got (hd 22 (by kernel_rfl)) hf
            exact dv_ hK hw (wn rfl) (r_rem hf rfl rfl hc54) rfl
          · intro ρ w a hw hG hf hd K hK
            obtain ⟨o1, o5⟩ := hG
            exact dv_ hK hw (wn rfl) (r_move hf rfl) rfl
          · intro ρ w a hw hG hf hd K hK
            obtain ⟨o1, o5⟩ := hG
            obtain ⟨_, hf, rfl⟩ := got (hd 23 (by kernel_rfl)) hf
            obtain ⟨_, hf, rfl⟩ := got (hd 24 (by kernel_rfl)) hf
            exact dv_ hK hw (wn rfl) (r_add hf rfl rfl) rfl
          · intro ρ w a hw hG hf hd K hK
            obtain ⟨o1, o5⟩ := hG
            exact dv_ hK hw (wn rfl) (r_move hf rfl) rfl
          · intro ρ w a hw hG hf hd K hK
            obtain ⟨o1, o5⟩ := hG
            obtain ⟨_, hf, rfl⟩ := got (hd 25 (by kernel_rfl)) hf
            obtain ⟨_, hf, rfl⟩ := got (hd 26 (by kernel_rfl)) hf
            exact dv_ hK hw (wn rfl) (r_rem hf rfl rfl hc54) rfl
        intro ρ w a hw hG hf hd
        obtain ⟨o1, o5⟩ := hG
        obtain ⟨_, hf, ⟨rfl, hn60⟩⟩ := got (hd 3 (by decide)) hf
        obtain ⟨_, hf, rfl⟩ := got (hd 4 (by decide)) hf
        obtain ⟨_, hf, rfl⟩ := got (hd 27 (by decide)) hf
        obtain ⟨ad67, hl67⟩ := Ow.ce (d := fI64) (o1.rowAt hn60) 0 hc62.1 hc62.2
        refine s_ hf (r_idx Try.underlying36 sz2 hf rfl hl67.at_ rfl hc62.1 hc62.2) fun a hf => ?_
        refine sk_ hf (r_gcell (p := s57) (b := (w64 (((w64 ((gl 0 (s58.getD (gl 0 ((s19.set s18.toNat (gl 0 s19 (w64 (s18 + x30)))).set (w64 (s18 + x30)).toNat (gl 0 s19 s18)) s47) []) s57) - (w64 (((w64 ((gl 0 (s48.getD (gl 0 ((s19.set s18.toNat (gl 0 s19 (w64 (s18 + x30)))).set (w64 (s18 + x30)).toNat (gl 0 s19 s18)) s47) []) s22) * x44)).tmod a0) * (gl 0 (s58.getD (gl 0 ((s19.set s18.toNat (gl 0 s19 (w64 (s18 + x30)))).set (w64 (s18 + x30)).toNat (gl 0 s19 s18)) s18) []) s57))))).tmod a0) + a0)).tmod a0) 0 hw o1 hc62.1 hc62.2 (Lens.id _) hl67.at_ ty2 (by first | rfl | exact Nat.add_assoc _ _ _ | (simp only [Nat.add_assoc]; rfl)) hf rfl rfl rfl) fun a w hf hΦ => ?_
        obtain ⟨hw, hA, o1⟩ := hΦ
        replace o5 := o5.adv hA (by unfold lab; omega)
        replace hn60 : (gl 0 ((s19.set s18.toNat (gl 0 s19 (w64 (s18 + x30)))).set (w64 (s18 + x30)).toNat (gl 0 s19 s18)) s47) < (s58.set (gl 0 ((s19.set s18.toNat (gl 0 s19 (w64 (s18 + x30)))).set (w64 (s18 + x30)).toNat (gl 0 s19 s18)) s47) ((s58.getD (gl 0 ((s19.set s18.toNat (gl 0 s19 (w64 (s18 + x30)))).set (w64 (s18 + x30)).toNat (gl 0 s19 s18)) s47) []).set s57.toNat ((w64 (((w64 ((gl 0 (s58.getD (gl 0 ((s19.set s18.toNat (gl 0 s19 (w64 (s18 + x30)))).set (w64 (s18 + x30)).toNat (gl 0 s19 s18)) s47) []) s57) - (w64 (((w64 ((gl 0 (s48.getD (gl 0 ((s19.set s18.toNat (gl 0 s19 (w64 (s18 + x30)))).set (w64 (s18 + x30)).toNat (gl 0 s19 s18)) s47) []) s22) * x44)).tmod a0) * (gl 0 (s58.getD (gl 0 ((s19.set s18.toNat (gl 0 s19 (w64 (s18 + x30)))).set (w64 (s18 + x30)).toNat (gl 0 s19 s18)) s18) []) s57))))).tmod a0) + a0)).tmod a0))).length := by simp only [List.length_append, List.length_set]; omega
        refine c_nil <| n_block <| n_then <| c_region ?_
        refine s_ hf (r_add hf rfl rfl) fun a hf => ?_
        refine s_ hf (r_move hf rfl) fun a hf => ?_
        refine c_nil ?_
        obtain rfl := Option.some.inj hF
        exact Rnd.goes ⟨_, hw, hf.sub ⟨rfl, rfl, rfl, rfl, rfl, rfl, rfl, rfl, rfl, trivial⟩, o1, o5⟩
      rintro ⟨s57, s58⟩ a w hs ⟨ρ, hw, hf, o1, o5⟩
      subst hs
      have hF := hG56
      dsimp only at hF
      refine x_block <| n_block <| n_then <| c_region ?_
      refine s_ hf (r_move hf rfl) fun a hf => ?_
      refine s_ hf (r_add hf rfl rfl) fun a hf => ?_
      refine s_ hf (r_assign hf rfl) fun a hf => ?_
      refine c_nil ?_
      obtain rfl := Option.some.inj hF
      exact Rnd.goes ⟨_, hw, hf.sub ⟨rfl, rfl, rfl, rfl, rfl, rfl, trivial⟩, o1, o5⟩
    rintro ⟨s47, s48⟩ a w hs ⟨ρ, hw, hf, o1, o5⟩
    subst hs
    have hF := hG46
    dsimp only at hF
    refine x_block <| n_then <| c_region ?_
    refine s_ hf (r_move hf rfl) fun a hf => ?_
    refine s_ hf (r_add hf rfl rfl) fun a hf => ?_
    refine s_ hf (r_assign hf rfl) fun a hf => ?_
    refine c_nil <| n_block <| n_then <| c_seq <| c_seq <| c_region ?_
    refine s_ hf (r_load_cell ty3 hf rfl o5.cl) fun a hf => ?_
    refine c_nt <| c_region ?_
    refine sx_ hf (r_alloc (cs := [vI 0]) 37 ze3 rfl hw) fun a v w hf hΦ => ?_
    obtain ⟨g37, ρ, rfl, hw, hE, o37⟩ := hΦ
    replace o1 := o1.ext hE
    replace o5 := o5.ext hE
    refine sk_ hf (r_store_w (cs' := [vI s22]) hw o37 (by decide) ty3 rfl rfl (one_one rfl) hf rfl rfl rfl) fun a w hf hΦ => ?_
    obtain ⟨hw, hA, o37⟩ := hΦ
    replace o1 := o1.adv hA (by decide) (fun _ => by unfold lab; omega)
    replace o5 := o5.adv hA (by decide)
    refine c_nt <| c_region ?_
    refine s_ hf (r_load_cell ty3 hf rfl o37.cl) fun a hf => ?_
    refine s_ hf (r_add hf rfl rfl) fun a hf => ?_
    refine sk_ hf (r_store_w (cs' := [vI (w64 (s22 + 1))]) hw o37 (by decide) ty3 rfl rfl (one_one rfl) hf rfl rfl rfl) fun a w hf hΦ => ?_
    obtain ⟨hw, hA, o37⟩ := hΦ
    replace o1 := o1.adv hA (by decide) (fun _ => by unfold lab; omega)
    replace o5 := o5.adv hA (by decide)
    refine c_nil ?_
    obtain rfl := Option.some.inj hF
    replace o1 := o1.tr (Tr.relab (j := 37) (b := 5) (by decide)) (fun _ => Tr.relab (by unfold lab; omega))
    replace o37 := o37.relab 5
    replace hw := hw.relab (j := 37) (by decide) 5
    exact Rnd.goes ⟨_, _, hw, hf.sub ⟨rfl, rfl, rfl, rfl, trivial⟩, o1, o37⟩
  rintro ⟨s18, s19, s20, s22⟩ a w hs ⟨ρ, hw, hf⟩
  subst hs
  have hF := hG17
  dsimp only at hF
  refine x_block <| n_then <| c_seq <| c_region ?_
  refine s_ hf (r_move hf rfl) fun a hf => ?_
  refine s_ hf (r_assign hf rfl) fun a hf => ?_
  refine c_nt <| c_retc ?_
  obtain rfl := Option.some.inj hF
  refine c_ret hf (res_tmp Try.results106 hf rfl) ?_
  exact ⟨_, rfl, hw.below, rfl⟩
/-! f127 -/
noncomputable def spec_l01Rank_l8 (a1 : Form) (a3 : Int) (s2 : Int) (s9 : Int) (s10 : List Int) : Option (LR (Int × (List Int)) Int) :=
  if (decide (s9 < a3)) = true then (if 0 ≤ w64 ((w64 (s2 * a3)) + s9) ∧ w64 ((w64 (s2 * a3)) + s9) < 9 then (if (s10.length + ([((vg 0 a1 (w64 ((w64 (s2 * a3)) + s9))).toNat : Int)]).length) * 8 ≤ 140737488355328 then (some (.next (w64 (s9 + 1), (s10 ++ [((vg 0 a1 (w64 ((w64 (s2 * a3)) + s9))).toNat : Int)])))) else none) else none) else (some (.stop (s9, s10)))
noncomputable def spec_l01Rank_l1 (a1 : Form) (a2 : Int) (a3 : Int) (s2 : Int) (s3 : List Nat) (s4 : List (List Int)) : Option (LR (Int × (List Nat) × (List (List Int))) Int) :=
  if (decide (s2 < a2)) = true then ((iter (fun s => spec_l01Rank_l8 a1 a3 s2 s.1 s.2) (0, ([] : List Int))).bind fun o => match o with | .stop (s9, s10) => (if (s3.length + 1) * 24 ≤ 140737488355328 then (some (.next (w64 (s2 + 1), (s3 ++ [s4.length]), (s4 ++ [s10])))) else none) | .ret r => some (.ret r) | .next _ => none) else (some (.stop (s2, s3, s4)))
noncomputable def spec_l01Rank_l26 (a2 : Int) (s21 : Int) (s22 : List Nat) (s23 : List (List Int)) (s27 : Int) : Option (LR Int Int) :=
  (if (decide (s27 < a2)) = true then (if 0 ≤ s27 ∧ s27 < (s22.length : Int) then (if 0 ≤ s21 ∧ s21 < ((s23.getD (gl 0 s22 s27) []).length : Int) then (some (decide ((gl 0 (s23.getD (gl 0 s22 s27) []) s21) = 0))) else none) else none) else (some false)).bind fun (s29 : Bool) => if s29 = true then (some (.next (w64 (s27 + 1)))) else (some (.stop s27))
noncomputable def spec_l01Rank_l59 (a0 : Int) (a3 : Int) (s21 : Int) (s22 : List Nat) (s27 : Int) (x46 : Int) (s49 : Int) (s50 : List Nat) (s51 : List (List Int)) (s60 : Int) (s61 : List Int) : Option (LR (Int × (List Int)) Int) :=
  if (decide (s60 < a3)) = true then (if 0 ≤ s60 ∧ s60 < ((s51.getD (gl 0 s50 s49) []).length : Int) then (if 0 ≤ s60 ∧ s60 < ((s51.getD (gl 0 s22 s27) []).length : Int) then ((spec_l01Mod a0 (w64 ((gl 0 (s51.getD (gl 0 s50 s49) []) s60) - (w64 (((w64 ((gl 0 (s51.getD (gl 0 s50 s49) []) s21) * x46)).tmod a0) * (gl 0 (s51.getD (gl 0 s22 s27) []) s60)))))).bind fun x69 => if (s61.length + ([x69]).length) * 8 ≤ 140737488355328 then (some (.next (w64 (s60 + 1), (s61 ++ [x69])))) else none) else none) else none) else (some (.stop (s60, s61)))
noncomputable def spec_l01Rank_l48 (a0 : Int) (a2 : Int) (a3 : Int) (s21 : Int) (s22 : List Nat) (s27 : Int) (x46 : Int) (s49 : Int) (s50 : List Nat) (s51 : List (List Int)) : Option (LR (Int × (List Nat) × (List (List Int))) Int) :=
  if (decide (s49 < a2)) = true then (if 0 ≤ s49 ∧ s49 < (s50.length : Int) then (if 0 ≤ s21 ∧ s21 < ((s51.getD (gl 0 s50 s49) []).length : Int) then (if a0 ≠ 0 then ((iter (fun s => spec_l01Rank_l59 a0 a3 s21 s22 s27 x46 s49 s50 s51 s.1 s.2) (0, ([] : List Int))).bind fun o => match o with | .stop (s60, s61) => (some (.next (w64 (s49 + 1), (s50.set s49.toNat s51.length), (s51 ++ [s61])))) | .ret r => some (.ret r) | .next _ => none) else none) else none) else none) else (some (.stop (s49, s50, s51)))
noncomputable def spec_l01Rank_l19 (a0 : Int) (a2 : Int) (a3 : Int) (s20 : Int) (s21 : Int) (s22 : List Nat) (s23 : List (List Int)) : Option (LR (Int × Int × (List Nat) × (List (List Int))) Int) :=
  if (decide (s21 < a3)) = true then ((iter (fun s => spec_l01Rank_l26 a2 s21 s22 s23 s) s20).bind fun o => match o with | .stop s27 => (if (decide (s27 = a2)) = true then (some (.next (s20, w64 (s21 + 1), s22, s23))) else (if 0 ≤ s27 ∧ s27 < (s22.length : Int) then (if 0 ≤ s20 ∧ s20 < (s22.length : Int) then (if 0 ≤ s20 ∧ s20 < ((s22.set s27.toNat (gl 0 s22 s20)).length : Int) then (if 0 ≤ s21 ∧ s21 < ((s23.getD (gl 0 s22 s27) []).length : Int) then ((spec_l01Inverse a0 (gl 0 (s23.getD (gl 0 s22 s27) []) s21)).bind fun x46 => (iter (fun s => spec_l01Rank_l48 a0 a2 a3 s21 s22 s27 x46 s.1 s.2.1 s.2.2) (w64 (s20 + 1), ((s22.set s27.toNat (gl 0 s22 s20)).set s20.toNat (gl 0 s22 s27)), s23)).bind fun o => match o with | .stop (s49, s50, s51) => (some (.next (w64 (s20 + 1), w64 (s21 + 1), s50, s51))) | .ret r => some (.ret r) | .next _ => none) else none) else none) else none) else none)) | .ret r => some (.ret r) | .next _ => none) else (some (.stop (s20, s21, s22, s23)))
noncomputable def spec_l01Rank (a0 : Int) (a1 : Form) (a2 : Int) (a3 : Int) : Option Int :=
  (iter (fun s => spec_l01Rank_l1 a1 a2 a3 s.1 s.2.1 s.2.2) (0, ([] : List Nat), ([] : List (List Int)))).bind fun o => match o with | .stop (s2, s3, s4) => ((iter (fun s => spec_l01Rank_l19 a0 a2 a3 s.1 s.2.1 s.2.2.1 s.2.2.2) (0, 0, s3, s4)).bind fun o => match o with | .stop (s20, s21, s22, s23) => (some (s20)) | .ret r => some r | .next _ => none) | .ret r => some r | .next _ => none
theorem spec_l01Rank_ok {w0 : World} {a0 : Int} {a1 : Form} {a2 : Int} {a3 : Int}   {r : Int} (hF : spec_l01Rank a0 a1 a2 a3 = some r) :
    Calls Try.prog 127 [vI a0, .agg (cForm.enc a1).toArray, vI a2, vI a3].toArray w0 fun e w => ∃ v, e = .returned v ∧ Below w0.heap.size w0 w ∧ .int .i64 r = v := by
  refine calls_of (k := 144) Try.func127 rfl rfl (Nat.le_of_ble_eq_true rfl) fun a hf => ?_
  replace hf : Fr 144 a [(0, vI a0), (1, .agg (cForm.enc a1).toArray), (2, vI a2), (3, vI a3)] := hf
  refine c_start fun w ρ hw => ?_
  unfold spec_l01Rank at hF
  refine c_seq <| c_region ?_
  refine sx_ hf (r_box (cs := cForm.enc a1) 1 hw hf rfl rfl) fun a v w hf hΦ => ?_
  obtain ⟨g1, ρ, rfl, hw, hE, o1⟩ := hΦ
  refine s_ hf (r_assign hf rfl) fun a hf => ?_
  refine c_nt <| c_seq <| c_region ?_
  refine sx_ hf (r_lit_none (d := (Kd.slice 2 (kf fI64))) 2 Try.underlying24 el36 hw) fun a v2 w hf hΦ => ?_
  obtain ⟨ρ, hw, hE, o2⟩ := hΦ
  replace o1 := o1.ext hE
  replace o2 : Gd fI64 2 36 ρ w w0.heap.size 2 v2 (fun _ => (⟨.bool false, rfl⟩ : V1)) ([] : List Nat) ([] : List (List Int)) := Gd.empty o2 rfl (by decide) _
  refine s_ hf (r_assign hf rfl) fun a hf => ?_
  refine s_ hf (r_assign hf rfl) fun a hf => ?_
  refine c_nt <| c_seq <| c_seq <| c_region ?_
  refine s_ hf (r_assign hf rfl) fun a hf => ?_
  refine c_nt ?_
  obtain ⟨ol1, ho1, hG1⟩ := of_bind hF
  clear hF
  refine c_block (c_loop (id := 0) (fun s => spec_l01Rank_l1 a1 a2 a3 s.1 s.2.1 s.2.2) (fun (s : Int × (List Nat) × (List (List Int))) a w => match s with | (s2, s3, s4) => ∃ ρ vv5 f6, Wd w0 ρ w ∧ Fr 144 a [(0, vI a0), (2, vI a2), (3, vI a3), (5, .pointer (some ((⟨g1, 0, none⟩ : Addr).add 0))), (9, vv5), (10, vI 0), (11, vI s2)] ∧ Va ρ w 1 g1 80 (cForm.enc a1) ∧ Gd fI64 2 36 ρ w w0.heap.size 2 vv5 f6 s3 s4) (fun (s : Int × (List Nat) × (List (List Int))) a w => match s with | (s2, s3, s4) => ∃ ρ vv5 f6, Wd w0 ρ w ∧ Fr 144 a [(0, vI a0), (2, vI a2), (3, vI a3), (9, vv5), (10, vI 0)] ∧ Gd fI64 2 36 ρ w w0.heap.size 2 vv5 f6 s3 s4) ho1 ⟨_, _, _, hw, hf.sub ⟨rfl, rfl, rfl, rfl, rfl, rfl, rfl, trivial⟩, o1, o2⟩ ?_ ?_)
  · rintro ⟨s2, s3, s4⟩ lr a w ⟨ρ, vv5, f6, hw, hf, o1, o2⟩ hF
    replace hF : spec_l01Rank_l1 a1 a2 a3 s2 s3 s4 = some lr := hF
    unfold spec_l01Rank_l1 at hF
    refine c_seq <| c_seq <| c_region ?_
    refine s_ hf (r_move hf rfl) fun a hf => ?_
    refine s_ hf (r_move hf rfl) fun a hf => ?_
    refine s_ hf (r_lss hf rfl rfl) fun a hf => ?_
    refine c_nt ?_
    rcases of_ite hF with ⟨hb7, hF⟩ | ⟨hb7, hF⟩
    rotate_left
    · refine c_iff hf rfl hb7 <| c_exit <| x_then ?_
      obtain rfl := Option.some.inj hF
      exact Rnd.stops ⟨_, _, _, hw, hf.sub ⟨rfl, rfl, rfl, rfl, rfl, trivial⟩, o2⟩
    refine c_ift hf rfl hb7 <| c_skip <| n_then <| c_seq <| c_block <| c_seq <| c_region ?_
    refine sx_ hf (r_lit (d := fI64) (xs := ([] : List Int)) (vs := []) 3 Try.underlying36 el2 (Nat.le_of_ble_eq_true rfl) (Nat.le_of_ble_eq_true rfl) hw hf rfl rfl rfl) fun a v3 w hf hΦ => ?_
    obtain ⟨ρ, hw, hE, o3⟩ := hΦ
    replace o1 := o1.ext hE
    replace o2 := o2.ext hE
    refine s_ hf (r_assign hf rfl) fun a hf => ?_
    refine c_nt <| c_seq <| c_seq <| c_region ?_
    refine s_ hf (r_assign hf rfl) fun a hf => ?_
    refine c_nt ?_
    obtain ⟨ol8, ho8, hG8⟩ := of_bind hF
    clear hF
    refine c_block (c_loop (id := 2) (fun s => spec_l01Rank_l8 a1 a3 s2 s.1 s.2) (fun (s : Int × (List Int)) a w => match s with | (s9, s10) => ∃ ρ vv11, Wd w0 ρ w ∧ Fr 144 a [(0, vI a0), (2, vI a2), (3, vI a3), (5, .pointer (some ((⟨g1, 0, none⟩ : Addr).add 0))), (9, vv5), (10, vI 0), (11, vI s2), (12, vv11), (13, vI s9)] ∧ Va ρ w 1 g1 80 (cForm.enc a1) ∧ Gd fI64 2 36 ρ w w0.heap.size 2 vv5 f6 s3 s4 ∧ O2 ρ w w0 3 vv11 s10) (fun (s : Int × (List Int)) a w => match s with | (s9, s10) => ∃ ρ vv11, Wd w0 ρ w ∧ Fr 144 a [(0, vI a0), (2, vI a2), (3, vI a3), (5, .pointer (some ((⟨g1, 0, none⟩ : Addr).add 0))), (9, vv5), (10, vI 0), (11, vI s2), (12, vv11)] ∧ Va ρ w 1 g1 80 (cForm.enc a1) ∧ Gd fI64 2 36 ρ w w0.heap.size 2 vv5 f6 s3 s4 ∧ O2 ρ w w0 3 vv11 s10) ho8 ⟨_, _, hw, hf.sub ⟨rfl, rfl, rfl, rfl, rfl, rfl, rfl, rfl, rfl, trivial⟩, o1, o2, o3⟩ ?_ ?_)
    · rintro ⟨s9, s10⟩ lr a w ⟨ρ, vv11, hw, hf, o1, o2, o3⟩ hF
      replace hF : spec_l01Rank_l8 a1 a3 s2 s9 s10 = some lr := hF
      unfold spec_l01Rank_l8 at hF
      refine c_seq <| c_seq <| c_region ?_
      refine s_ hf (r_move hf rfl) fun a hf => ?_
      refine s_ hf (r_move hf rfl) fun a hf => ?_
      refine s_ hf (r_lss hf rfl rfl) fun a hf => ?_
      refine c_nt ?_
      rcases of_ite hF with ⟨hb12, hF⟩ | ⟨hb12, hF⟩
      rotate_left
      · refine c_iff hf rfl hb12 <| c_exit <| x_then ?_
        obtain rfl := Option.some.inj hF
        exact Rnd.stops ⟨_, _, hw, hf.sub ⟨rfl, rfl, rfl, rfl, rfl, rfl, rfl, rfl, trivial⟩, o1, o2, o3⟩
      refine c_ift hf rfl hb12 <| c_skip <| n_then <| c_seq <| c_block <| c_region ?_
      refine s_ hf (r_move hf rfl) fun a hf => ?_
      refine s_ hf (r_move hf rfl) fun a hf => ?_
      refine s_ hf (r_move hf rfl) fun a hf => ?_
      refine s_ hf (r_mul hf rfl rfl) fun a hf => ?_
      refine s_ hf (r_move hf rfl) fun a hf => ?_
      refine s_ hf (r_add hf rfl rfl) fun a hf => ?_
      obtain ⟨hc13, hF⟩ := of_guard hF
      refine s_ hf (r_indexAddr_arr Try.underlying80 sz5 hf rfl rfl hc13.1 hc13.2) fun a hf => ?_
      refine s_ hf (r_load_cell ty5 hf rfl (o1.cl.lens (Lens.vec 0 fU8 (w64 ((w64 (s2 * a3)) + s9)) hc13.1 hc13.2))) fun a hf => ?_
      refine s_ hf (r_conv_u8_i64 Try.underlying5 Try.underlying2 hf rfl) fun a hf => ?_
      refine sx_ hf (r_lit (d := fI64) (xs := ([((vg 0 a1 (w64 ((w64 (s2 * a3)) + s9))).toNat : Int)] : List Int)) (vs := [vI ((vg 0 a1 (w64 ((w64 (s2 * a3)) + s9))).toNat : Int)]) 4 Try.underlying36 el2 (Nat.le_of_ble_eq_true rfl) (Nat.le_of_ble_eq_true rfl) hw hf rfl rfl rfl) fun a v4 w hf hΦ => ?_
      obtain ⟨ρ, hw, hE, o4⟩ := hΦ
      replace o1 := o1.ext hE
      replace o2 := o2.ext hE
      replace o3 := o3.ext hE
      obtain ⟨hc14, hF⟩ := of_guard hF
      refine sx_ hf (r_append Try.underlying36 el2 hw (by decide) o3 o4.ro hc14 hf rfl rfl) fun a va15 w hf hΦ => ?_
      obtain ⟨ρ, hw, hA, o3⟩ := hΦ
      replace o1 := o1.adv hA (by decide)
      replace o2 := o2.adv hA (by decide) (fun _ => by unfold lab; omega)
      replace o4 := o4.adv hA (by decide)
      refine s_ hf (r_assign hf rfl) fun a hf => ?_
      refine c_nil <| n_block <| n_then <| c_region ?_
      refine s_ hf (r_move hf rfl) fun a hf => ?_
      refine s_ hf (r_add hf rfl rfl) fun a hf => ?_
      refine s_ hf (r_assign hf rfl) fun a hf => ?_
      refine c_nil ?_
      obtain rfl := Option.some.inj hF
      exact Rnd.goes ⟨_, _, hw, hf.sub ⟨rfl, rfl, rfl, rfl, rfl, rfl, rfl, rfl, rfl, trivial⟩, o1, o2, o3⟩
    rintro ⟨s9, s10⟩ a w hs ⟨ρ, vv11, hw, hf, o1, o2, o3⟩
    subst hs
    have hF := hG8
    dsimp only at hF
    refine x_block <| n_then <| c_region ?_
    refine s_ hf (r_move hf rfl) fun a hf => ?_
    refine s_ hf (r_move hf rfl) fun a hf => ?_
    refine sx_ hf (r_glit 5 Try.underlying24 el36 hw hf rfl o3) fun a v5 w hf hΦ => ?_
    obtain ⟨ρ, hw, hE, o5⟩ := hΦ
    replace o1 := o1.ext hE
    replace o2 := o2.ext hE
    replace o3 := o3.ext hE
    obtain ⟨hc16, hF⟩ := of_guard hF
    refine sx_ hf (r_gapp' Try.underlying24 el36 hw (by decide) (by decide) (fun _ => by unfold lab; omega) o2 o5 o3 hc16 hf rfl rfl) fun a va17 w hf hΦ => ?_
    obtain ⟨f17, ρ, hw, hT, o2, hff17, hnu17⟩ := hΦ
    replace o1 := o1.tr (hT 1 (by decide) (by decide))
    rw [hnu17] at hf
    have hn18 : s4.length < (s4 ++ [s10]).length := by simp
    refine s_ hf (r_assign hf rfl) fun a hf => ?_
    refine c_nil <| n_block <| n_then <| c_region ?_
    refine s_ hf (r_move hf rfl) fun a hf => ?_
    refine s_ hf (r_add hf rfl rfl) fun a hf => ?_
    refine s_ hf (r_assign hf rfl) fun a hf => ?_
    refine c_nil ?_
    obtain rfl := Option.some.inj hF
    exact Rnd.goes ⟨_, _, _, hw, hf.sub ⟨rfl, rfl, rfl, rfl, rfl, rfl, rfl, trivial⟩, o1, o2⟩
  rintro ⟨s2, s3, s4⟩ a w hs ⟨ρ, vv5, f6, hw, hf, o2⟩
  subst hs
  have hF := hG1
  dsimp only at hF
  refine x_block <| n_then <| c_seq <| c_seq <| c_region ?_
  refine s_ hf (r_assign hf rfl) fun a hf => ?_
  refine c_nt ?_
  obtain ⟨ol19, ho19, hG19⟩ := of_bind hF
  clear hF
  refine c_block (c_loop (id := 4) (fun s => spec_l01Rank_l19 a0 a2 a3 s.1 s.2.1 s.2.2.1 s.2.2.2) (fun (s : Int × Int × (List Nat) × (List (List Int))) a w => match s with | (s20, s21, s22, s23) => ∃ ρ f24, Wd w0 ρ w ∧ Fr 144 a [(0, vI a0), (2, vI a2), (3, vI a3), (9, vv5), (10, vI s20), (14, vI s21)] ∧ Gd fI64 2 36 ρ w w0.heap.size 2 vv5 f24 s22 s23) (fun (s : Int × Int × (List Nat) × (List (List Int))) a w => match s with | (s20, s21, s22, s23) => ∃ ρ, Wd w0 ρ w ∧ Fr 144 a [(10, vI s20)]) ho19 ⟨_, _, hw, hf.sub ⟨rfl, rfl, rfl, rfl, rfl, rfl, trivial⟩, o2⟩ ?_ ?_)
  · rintro ⟨s20, s21, s22, s23⟩ lr a w ⟨ρ, f24, hw, hf, o2⟩ hF
    replace hF : spec_l01Rank_l19 a0 a2 a3 s20 s21 s22 s23 = some lr := hF
    unfold spec_l01Rank_l19 at hF
    refine c_seq <| c_seq <| c_region ?_
    refine s_ hf (r_move hf rfl) fun a hf => ?_
    refine s_ hf (r_move hf rfl) fun a hf => ?_
    refine s_ hf (r_lss hf rfl rfl) fun a hf => ?_
    refine c_nt ?_
    rcases of_ite hF with ⟨hb25, hF⟩ | ⟨hb25, hF⟩
    rotate_left
    · refine c_iff hf rfl hb25 <| c_exit <| x_then ?_
      obtain rfl := Option.some.inj hF
      exact Rnd.stops ⟨_, hw, hf.sub ⟨rfl, trivial⟩⟩
    refine c_ift hf rfl hb25 <| c_skip <| n_then <| c_seq <| c_block <| c_seq <| c_region ?_
    refine s_ hf (r_move hf rfl) fun a hf => ?_
    refine s_ hf (r_assign hf rfl) fun a hf => ?_
    refine c_nt <| c_seq ?_
    obtain ⟨ol26, ho26, hG26⟩ := of_bind hF
    clear hF
    refine c_block (c_loop (id := 6) (fun s => spec_l01Rank_l26 a2 s21 s22 s23 s) (fun (s27 : Int) a w => ∃ ρ, Wd w0 ρ w ∧ Fr 144 a [(0, vI a0), (2, vI a2), (3, vI a3), (9, vv5), (10, vI s20), (14, vI s21), (15, vI s27)] ∧ Gd fI64 2 36 ρ w w0.heap.size 2 vv5 f24 s22 s23) (fun (s27 : Int) a w => ∃ ρ, Wd w0 ρ w ∧ Fr 144 a [(0, vI a0), (2, vI a2), (3, vI a3), (9, vv5), (10, vI s20), (14, vI s21), (15, vI s27)] ∧ Gd fI64 2 36 ρ w w0.heap.size 2 vv5 f24 s22 s23) ho26 ⟨_, hw, hf.sub ⟨rfl, rfl, rfl, rfl, rfl, rfl, rfl, trivial⟩, o2⟩ ?_ ?_)
    · rintro s27 lr a w ⟨ρ, hw, hf, o2⟩ hF
      replace hF : spec_l01Rank_l26 a2 s21 s22 s23 s27 = some lr := hF
      unfold spec_l01Rank_l26 at hF
      refine c_seq <| c_seq ?_
      obtain ⟨s29, hT28, hG28⟩ := of_bind hF
      clear hF
      refine c_meet (fun (s29 : Bool) a w => ∃ ρ, Wd w0 ρ w ∧ Fr 144 a [(0, vI a0), (2, vI a2), (3, vI a3), (9, vv5), (10, vI s20), (14, vI s21), (15, vI s27), (67, .bool s29)] ∧ Gd fI64 2 36 ρ w w0.heap.size 2 vv5 f24 s22 s23) s29 ?_ ?_
      · have hF := hT28
        refine c_region ?_
        refine s_ hf (r_move hf rfl) fun a hf => ?_
        refine s_ hf (r_move hf rfl) fun a hf => ?_
        refine s_ hf (r_lss hf rfl rfl) fun a hf => ?_
        refine s_ hf (r_move hf rfl) fun a hf => ?_
        rcases of_ite hF with ⟨hb30, hF⟩ | ⟨hb30, hF⟩
        rotate_left
        · refine st_no (b := false) hf rfl rfl rfl hb30 rfl (by decide) fun a hf => ?_
          refine st_no (b := false) hf rfl rfl rfl hb30 rfl (by decide) fun a hf => ?_
          refine st_no (b := false) hf rfl rfl rfl hb30 rfl (by decide) fun a hf => ?_
          refine st_no (b := false) hf rfl rfl rfl hb30 rfl (by decide) fun a hf => ?_
          refine st_no (b := false) hf rfl rfl rfl hb30 rfl (by decide) fun a hf => ?_
          refine st_no (b := false) hf rfl rfl rfl hb30 rfl (by decide) fun a hf => ?_
          refine st_no (b := false) hf rfl rfl rfl hb30 rfl (by decide) fun a hf => ?_
          refine st_no (b := false) hf rfl rfl rfl hb30 rfl (by decide) fun a hf => ?_
          refine s_ hf (r_pick (b := false) hf rfl hb30 rfl) fun a hf => ?_
          refine c_nil ⟨rfl, ?_⟩
          obtain rfl := Option.some.inj hF
          exact ⟨_, hw, hf.sub ⟨rfl, rfl, rfl, rfl, rfl, rfl, rfl, rfl, trivial⟩, o2⟩
        refine st_g (b := true) hf rfl rfl rfl hb30 rfl (by decide) (r_move hf rfl) fun a hf => ?_
        refine st_g (b := true) hf rfl rfl rfl hb30 rfl (by decide) (r_move hf rfl) fun a hf => ?_
        obtain ⟨hc31, hF⟩ := of_guard hF
        obtain ⟨ad32, hl32⟩ := Ow.ce (d := fRef f24) o2.out 0 hc31.1 hc31.2
        have hn32 := o2.lt_gl hc31.1 hc31.2
        refine st_g (b := true) hf rfl rfl rfl hb30 rfl (by decide) (r_idx Try.underlying24 sz36 hf rfl hl32.at_ rfl hc31.1 hc31.2) fun a hf => ?_
        refine st_g (b := true) hf rfl rfl rfl hb30 rfl (by decide) (r_load_cell ty36 hf rfl hl32.co.cl) fun a hf => ?_
        refine st_g (b := true) hf rfl rfl rfl hb30 rfl (by decide) (r_move hf rfl) fun a hf => ?_
        obtain ⟨hc33, hF⟩ := of_guard hF
        obtain ⟨ad34, hl34⟩ := Ow.ce (d := fI64) (o2.rowAt hn32) 0 hc33.1 hc33.2
        refine st_g (b := true) hf rfl rfl rfl hb30 rfl (by decide) (r_idx Try.underlying36 sz2 hf rfl hl34.at_ rfl hc33.1 hc33.2) fun a hf => ?_
        refine st_g (b := true) hf rfl rfl rfl hb30 rfl (by decide) (r_load_cell ty2 hf rfl hl34.co.cl) fun a hf => ?_
        refine st_g (b := true) hf rfl rfl rfl hb30 rfl (by decide) (r_eql hf rfl rfl) fun a hf => ?_
        refine s_ hf (r_pick (b := true) hf rfl hb30 rfl) fun a hf => ?_
        refine c_nil ⟨rfl, ?_⟩
        obtain rfl := Option.some.inj hF
        exact ⟨_, hw, hf.sub ⟨rfl, rfl, rfl, rfl, rfl, rfl, rfl, rfl, trivial⟩, o2⟩
      rintro a w ⟨ρ, hw, hf, o2⟩
      have hF := hG28
      refine n_then ?_
      rcases of_ite hF with ⟨hb35, hF⟩ | ⟨hb35, hF⟩
      rotate_left
      · refine c_iff hf rfl hb35 <| c_exit <| x_then ?_
        obtain rfl := Option.some.inj hF
        exact Rnd.stops ⟨_, hw, hf.sub ⟨rfl, rfl, rfl, rfl, rfl, rfl, rfl, trivial⟩, o2⟩
      refine c_ift hf rfl hb35 <| c_skip <| n_then <| c_block <| c_region ?_
      refine s_ hf (r_move hf rfl) fun a hf => ?_
      refine s_ hf (r_add hf rfl rfl) fun a hf => ?_
      refine s_ hf (r_assign hf rfl) fun a hf => ?_
      refine c_nil <| n_block ?_
      obtain rfl := Option.some.inj hF
      exact Rnd.goes ⟨_, hw, hf.sub ⟨rfl, rfl, rfl, rfl, rfl, rfl, rfl, trivial⟩, o2⟩
    rintro s27 a w hs ⟨ρ, hw, hf, o2⟩
    subst hs
    have hF := hG26
    dsimp only at hF
    refine x_block <| n_then <| c_seq <| c_seq <| c_region ?_
    refine s_ hf (r_move hf rfl) fun a hf => ?_
    refine s_ hf (r_move hf rfl) fun a hf => ?_
    refine s_ hf (r_eql hf rfl rfl) fun a hf => ?_
    refine c_nt ?_
    rcases of_ite hF with ⟨hb36, hF⟩ | ⟨hb36, hF⟩
    · refine c_ift hf rfl hb36 <| c_exit <| x_then <| x_block <| n_then <| c_region ?_
      refine s_ hf (r_move hf rfl) fun a hf => ?_
      refine s_ hf (r_add hf rfl rfl) fun a hf => ?_
      refine s_ hf (r_assign hf rfl) fun a hf => ?_
      refine c_nil ?_
      obtain rfl := Option.some.inj hF
      exact Rnd.goes ⟨_, _, hw, hf.sub ⟨rfl, rfl, rfl, rfl, rfl, rfl, trivial⟩, o2⟩
    refine c_iff hf rfl hb36 <| c_skip <| n_then <| c_seq <| c_region ?_
    refine s_ hf (r_move hf rfl) fun a hf => ?_
    refine s_ hf (r_move hf rfl) fun a hf => ?_
    obtain ⟨hc37, hF⟩ := of_guard hF
    obtain ⟨ad38, hl38⟩ := Ow.ce (d := fRef f24) o2.out 0 hc37.1 hc37.2
    have hn38 := o2.lt_gl hc37.1 hc37.2
    refine s_ hf (r_idx Try.underlying24 sz36 hf rfl hl38.at_ rfl hc37.1 hc37.2) fun a hf => ?_
    refine s_ hf (r_load_cell ty36 hf rfl hl38.co.cl) fun a hf => ?_
    refine s_ hf (r_assign hf rfl) fun a hf => ?_
    refine c_nt <| c_seq <| c_region ?_
    refine s_ hf (r_move hf rfl) fun a hf => ?_
    refine s_ hf (r_move hf rfl) fun a hf => ?_
    refine s_ hf (r_move hf rfl) fun a hf => ?_
    refine s_ hf (r_move hf rfl) fun a hf => ?_
    obtain ⟨hc39, hF⟩ := of_guard hF
    obtain ⟨ad40, hl40⟩ := Ow.ce (d := fRef f24) o2.out 0 hc39.1 hc39.2
    have hn40 := o2.lt_gl hc39.1 hc39.2
    refine s_ hf (r_idx Try.underlying24 sz36 hf rfl hl40.at_ rfl hc39.1 hc39.2) fun a hf => ?_
    refine s_ hf (r_load_cell ty36 hf rfl hl40.co.cl) fun a hf => ?_
    obtain ⟨ad41, hl41⟩ := Ow.ce (d := fRef f24) o2.out 0 hc37.1 hc37.2
    have hn41 := o2.lt_gl hc37.1 hc37.2
    refine s_ hf (r_idx Try.underlying24 sz36 hf rfl hl41.at_ rfl hc37.1 hc37.2) fun a hf => ?_
    refine sk_ hf (r_gset (p := s27) hw o2 hn40 hc37.1 hc37.2 hl41.at_ ty36 rfl hf rfl rfl) fun a w hf hΦ => ?_
    obtain ⟨hw, hA, o2⟩ := hΦ
    refine c_nt <| c_seq <| c_region ?_
    refine s_ hf (r_move hf rfl) fun a hf => ?_
    refine s_ hf (r_move hf rfl) fun a hf => ?_
    refine s_ hf (r_move hf rfl) fun a hf => ?_
    obtain ⟨hc42, hF⟩ := of_guard hF
    obtain ⟨ad43, hl43⟩ := Ow.ce (d := fRef f24) o2.out 0 hc42.1 hc42.2
    have hn43 := o2.lt_gl hc42.1 hc42.2
    refine s_ hf (r_idx Try.underlying24 sz36 hf rfl hl43.at_ rfl hc42.1 hc42.2) fun a hf => ?_
    refine sk_ hf (r_gset (p := s20) hw o2 hn38 hc42.1 hc42.2 hl43.at_ ty36 rfl hf rfl rfl) fun a w hf hΦ => ?_
    obtain ⟨hw, hA, o2⟩ := hΦ
    refine c_nt <| c_seq <| c_region ?_
    refine s_ hf (r_move hf rfl) fun a hf => ?_
    refine s_ hf (r_move hf rfl) fun a hf => ?_
    refine s_ hf (r_move hf rfl) fun a hf => ?_
    obtain ⟨hc44, hF⟩ := of_guard hF
    obtain ⟨ad45, hl45⟩ := Ow.ce (d := fI64) (o2.rowAt hn38) 0 hc44.1 hc44.2
    refine s_ hf (r_idx Try.underlying36 sz2 hf rfl hl45.at_ rfl hc44.1 hc44.2) fun a hf => ?_
    refine s_ hf (r_load_cell ty2 hf rfl hl45.co.cl) fun a hf => ?_
    obtain ⟨x46, hx47, hF⟩ := of_bind hF
    refine st_fn 19 hw hf rfl rfl (by decide) (r_fn en113 hf rfl) (spec_l01Inverse_ok  hx47) fun a v w ρ hf hw hE hN hΦ => ?_
    obtain rfl := hΦ
    replace o2 := o2.ext hE
    replace hl45 := hl45.ext hE
    refine s_ hf (r_assign hf rfl) fun a hf => ?_
    refine c_nt <| c_seq <| c_seq <| c_region ?_
    refine s_ hf (r_move hf rfl) fun a hf => ?_
    refine s_ hf (r_add hf rfl rfl) fun a hf => ?_
    refine s_ hf (r_assign hf rfl) fun a hf => ?_
    refine c_nt ?_
    obtain ⟨ol48, ho48, hG48⟩ := of_bind hF
    clear hF
    refine c_block (c_loop (id := 8) (fun s => spec_l01Rank_l48 a0 a2 a3 s21 s22 s27 x46 s.1 s.2.1 s.2.2) (fun (s : Int × (List Nat) × (List (List Int))) a w => match s with | (s49, s50, s51) => ∃ ρ f52, Wd w0 ρ w ∧ Fr 144 a [(0, vI a0), (2, vI a2), (3, vI a3), (9, vv5), (10, vI s20), (14, vI s21), (16, (f52 (gl 0 s22 s27)).1), (17, vI x46), (18, vI s49)] ∧ Gd fI64 2 36 ρ w w0.heap.size 2 vv5 f52 s50 s51 ∧ (gl 0 s22 s27) < s51.length) (fun (s : Int × (List Nat) × (List (List Int))) a w => match s with | (s49, s50, s51) => ∃ ρ f52, Wd w0 ρ w ∧ Fr 144 a [(0, vI a0), (2, vI a2), (3, vI a3), (9, vv5), (10, vI s20), (14, vI s21)] ∧ Gd fI64 2 36 ρ w w0.heap.size 2 vv5 f52 s50 s51) ho48 ⟨_, _, hw, hf.sub ⟨rfl, rfl, rfl, rfl, rfl, rfl, rfl, rfl, rfl, trivial⟩, o2, hn38⟩ ?_ ?_)
    · rintro ⟨s49, s50, s51⟩ lr a w ⟨ρ, f52, hw, hf, o2, hn38⟩ hF
      replace hF : spec_l01Rank_l48 a0 a2 a3 s21 s22 s27 x46 s49 s50 s51 = some lr := hF
      unfold spec_l01Rank_l48 at hF
      refine c_seq <| c_seq <| c_region ?_
      refine s_ hf (r_move hf rfl) fun a hf => ?_
      refine s_ hf (r_move hf rfl) fun a hf => ?_
      refine s_ hf (r_lss hf rfl rfl) fun a hf => ?_
      refine c_nt ?_
      rcases of_ite hF with ⟨hb53, hF⟩ | ⟨hb53, hF⟩
      rotate_left
      · refine c_iff hf rfl hb53 <| c_exit <| x_then ?_
        obtain rfl := Option.some.inj hF
        exact Rnd.stops ⟨_, _, hw, hf.sub ⟨rfl, rfl, rfl, rfl, rfl, rfl, trivial⟩, o2⟩
      refine c_ift hf rfl hb53 <| c_skip <| n_then <| c_seq <| c_block <| c_seq <| c_region ?_
      refine s_ hf (r_move hf rfl) fun a hf => ?_
      refine s_ hf (r_move hf rfl) fun a hf => ?_
      obtain ⟨hc54, hF⟩ := of_guard hF
      obtain ⟨ad55, hl55⟩ := Ow.ce (d := fRef f52) o2.out 0 hc54.1 hc54.2
      have hn55 := o2.lt_gl hc54.1 hc54.2
      refine s_ hf (r_idx Try.underlying24 sz36 hf rfl hl55.at_ rfl hc54.1 hc54.2) fun a hf => ?_
      refine s_ hf (r_load_cell ty36 hf rfl hl55.co.cl) fun a hf => ?_
      refine s_ hf (r_move hf rfl) fun a hf => ?_
      obtain ⟨hc56, hF⟩ := of_guard hF
      obtain ⟨ad57, hl57⟩ := Ow.ce (d := fI64) (o2.rowAt hn55) 0 hc56.1 hc56.2
      refine s_ hf (r_idx Try.underlying36 sz2 hf rfl hl57.at_ rfl hc56.1 hc56.2) fun a hf => ?_
      refine s_ hf (r_load_cell ty2 hf rfl hl57.co.cl) fun a hf => ?_
      refine s_ hf (r_move hf rfl) fun a hf => ?_
      refine s_ hf (r_mul hf rfl rfl) fun a hf => ?_
      refine s_ hf (r_move hf rfl) fun a hf => ?_
      obtain ⟨hc58, hF⟩ := of_guard hF
      refine s_ hf (r_rem hf rfl rfl hc58) fun a hf => ?_
      refine sx_ hf (r_lit (d := fI64) (xs := ([] : List Int)) (vs := []) 23 Try.underlying36 el2 (Nat.le_of_ble_eq_true rfl) (Nat.le_of_ble_eq_true rfl) hw hf rfl rfl rfl) fun a v23 w hf hΦ => ?_
      obtain ⟨ρ, hw, hE, o23⟩ := hΦ
      replace o2 := o2.ext hE
      replace hl55 := hl55.ext hE
      replace hl57 := hl57.ext hE
      refine s_ hf (r_assign hf rfl) fun a hf => ?_
      refine s_ hf (r_assign hf rfl) fun a hf => ?_
      refine c_nt <| c_seq <| c_seq <| c_region ?_
      refine s_ hf (r_assign hf rfl) fun a hf => ?_
      refine c_nt ?_
      obtain ⟨ol59, ho59, hG59⟩ := of_bind hF
      clear hF
      refine c_block (c_loop (id := 10) (fun s => spec_l01Rank_l59 a0 a3 s21 s22 s27 x46 s49 s50 s51 s.1 s.2) (fun (s : Int × (List Int)) a w => match s with | (s60, s61) => ∃ ρ vv62, Wd w0 ρ w ∧ Fr 144 a [(0, vI a0), (2, vI a2), (3, vI a3), (9, vv5), (10, vI s20), (14, vI s21), (16, (f52 (gl 0 s22 s27)).1), (17, vI x46), (18, vI s49), (19, vI ((w64 ((gl 0 (s51.getD (gl 0 s50 s49) []) s21) * x46)).tmod a0)), (20, vv62), (21, vI s60)] ∧ Gd fI64 2 36 ρ w w0.heap.size 2 vv5 f52 s50 s51 ∧ (gl 0 s22 s27) < s51.length ∧ O2 ρ w w0 23 vv62 s61) (fun (s : Int × (List Int)) a w => match s with | (s60, s61) => ∃ ρ vv62, Wd w0 ρ w ∧ Fr 144 a [(0, vI a0), (2, vI a2), (3, vI a3), (9, vv5), (10, vI s20), (14, vI s21), (16, (f52 (gl 0 s22 s27)).1), (17, vI x46), (18, vI s49), (20, vv62)] ∧ Gd fI64 2 36 ρ w w0.heap.size 2 vv5 f52 s50 s51 ∧ (gl 0 s22 s27) < s51.length ∧ O2 ρ w w0 23 vv62 s61) ho59 ⟨_, _, hw, hf.sub ⟨rfl, rfl, rfl, rfl, rfl, rfl, rfl, rfl, rfl, rfl, rfl, rfl, trivial⟩, o2, hn38, o23⟩ ?_ ?_)
      · rintro ⟨s60, s61⟩ lr a w ⟨ρ, vv62, hw, hf, o2, hn38, o23⟩ hF
        replace hF : spec_l01Rank_l59 a0 a3 s21 s22 s27 x46 s49 s50 s51 s60 s61 = some lr := hF
        unfold spec_l01Rank_l59 at hF
        refine c_seq <| c_seq <| c_region ?_
        refine s_ hf (r_move hf rfl) fun a hf => ?_
        refine s_ hf (r_move hf rfl) fun a hf => ?_
        refine s_ hf (r_lss hf rfl rfl) fun a hf => ?_
        refine c_nt ?_
        rcases of_ite hF with ⟨hb63, hF⟩ | ⟨hb63, hF⟩
        rotate_left
        · refine c_iff hf rfl hb63 <| c_exit <| x_then ?_
          obtain rfl := Option.some.inj hF
          exact Rnd.stops ⟨_, _, hw, hf.sub ⟨rfl, rfl, rfl, rfl, rfl, rfl, rfl, rfl, rfl, rfl, trivial⟩, o2, hn38, o23⟩
        refine c_ift hf rfl hb63 <| c_skip <| n_then <| c_seq <| c_block ?_
        obtain ⟨hc65, hF⟩ := of_guard hF
        obtain ⟨hc67, hF⟩ := of_guard hF
        obtain ⟨x69, hx70, hF⟩ := of_bind hF
        replace hf : Fr 144 a [(0, vI a0), (2, vI a2), (3, vI a3), (9, vv5), (10, vI s20), (14, vI s21), (16, (f52 (gl 0 s22 s27)).1), (17, vI x46), (18, vI s49), (19, vI ((w64 ((gl 0 (s51.getD (gl 0 s50 s49) []) s21) * x46)).tmod a0)), (20, vv62), (21, vI s60)] := hf.sub ⟨rfl, rfl, rfl, rfl, rfl, rfl, rfl, rfl, rfl, rfl, rfl, rfl, trivial⟩
        refine c_drawL (h := 18) mixed (by kernel_rfl) (by kernel_rfl) (fun ρ w => Gd fI64 2 36 ρ w w0.heap.size 2 vv5 f52 s50 s51 ∧ (gl 0 s22 s27) < s51.length ∧ O2 ρ w w0 23 vv62 s61) ?_ [fun ρ w v => vv62 = v, fun ρ w v => vI a0 = v, fun ρ w v => vv5 = v, fun ρ w v => vI s49 = v, fun ρ w v => ∃ ad64, .pointer (some (ad64.add (s49.toNat * 1))) = v ∧ (gl 0 s50 s49) < s51.length ∧ Ce ρ w 2 vv5 s50.length ad64 (s49.toNat * 1) ([(f52 (gl 0 s50 s49)).1]), fun ρ w v => (f52 (gl 0 s50 s49)).1 = v ∧ (gl 0 s50 s49) < s51.length, fun ρ w v => vI s60 = v, fun ρ w v => ∃ ad66, .pointer (some (ad66.add (s60.toNat * 1))) = v ∧ Ce ρ w (lab 2 (gl 0 s50 s49)) ((f52 (gl 0 s50 s49)).1) ((s51.getD (gl 0 s50 s49) []).length) ad66 (s60.toNat * 1) (fI64.enc (gl 0 (s51.getD (gl 0 s50 s49) []) s60)), fun ρ w v => vI (gl 0 (s51.getD (gl 0 s50 s49) []) s60) = v, fun ρ w v => vI ((w64 ((gl 0 (s51.getD (gl 0 s50 s49) []) s21) * x46)).tmod a0) = v, fun ρ w v => (f52 (gl 0 s22 s27)).1 = v, fun ρ w v => vI s60 = v, fun ρ w v => ∃ ad68, .pointer (some (ad68.add (s60.toNat * 1))) = v ∧ Ce ρ w (lab 2 (gl 0 s22 s27)) ((f52 (gl 0 s22 s27)).1) ((s51.getD (gl 0 s22 s27) []).length) ad68 (s60.toNat * 1) (fI64.enc (gl 0 (s51.getD (gl 0 s22 s27) []) s60)), fun ρ w v => vI (gl 0 (s51.getD (gl 0 s22 s27) []) s60) = v, fun ρ w v => vI (w64 (((w64 ((gl 0 (s51.getD (gl 0 s50 s49) []) s21) * x46)).tmod a0) * (gl 0 (s51.getD (gl 0 s22 s27) []) s60))) = v, fun ρ w v => vI (w64 ((gl 0 (s51.getD (gl 0 s50 s49) []) s60) - (w64 (((w64 ((gl 0 (s51.getD (gl 0 s50 s49) []) s21) * x46)).tmod a0) * (gl 0 (s51.getD (gl 0 s22 s27) []) s60))))) = v, fun ρ w v => vI x69 = v, fun ρ w v => ∃ v29, v29 = v ∧ O2 ρ w w0 29 v29 ([x69])] ?_ hw ⟨o2, hn38, o23⟩ hf ?_ ?_
        · intro ρ w ρ' w' hE hG
          obtain ⟨o2, hn38, o23⟩ := hG
          exact ⟨o2.ext hE, hn38, o23.ext hE⟩
        · exact LastsL.cons (fun _ _ _ _ _ _ h => h) <| LastsL.cons (fun _ _ _ _ _ _ h => h) <| LastsL.cons (fun _ _ _ _ _ _ h => h) <| LastsL.cons (fun _ _ _ _ _ _ h => h) <| LastsL.cons (fun _ _ _ _ _ hE h => by obtain ⟨ad64, h, hn64, hl64⟩ := h; exact ⟨_, h, hn64, hl64.ext hE⟩) <| LastsL.cons (fun _ _ _ _ _ hE h => by obtain ⟨h, hn64⟩ := h; exact ⟨h, hn64⟩) <| LastsL.cons (fun _ _ _ _ _ _ h => h) <| LastsL.cons (fun _ _ _ _ _ hE h => by obtain ⟨ad66, h, hl66⟩ := h; exact ⟨_, h, hl66.ext hE⟩) <| LastsL.cons (fun _ _ _ _ _ _ h => h) <| LastsL.cons (fun _ _ _ _ _ _ h => h) <| LastsL.cons (fun _ _ _ _ _ _ h => h) <| LastsL.cons (fun _ _ _ _ _ _ h => h) <| LastsL.cons (fun _ _ _ _ _ hE h => by obtain ⟨ad68, h, hl68⟩ := h; exact ⟨_, h, hl68.ext hE⟩) <| LastsL.cons (fun _ _ _ _ _ _ h => h) <| LastsL.cons (fun _ _ _ _ _ _ h => h) <| LastsL.cons (fun _ _ _ _ _ _ h => h) <| LastsL.cons (fun _ _ _ _ _ _ h => h) <| LastsL.cons (fun _ _ _ _ _ hE h => by obtain ⟨v29, h, o29⟩ := h; exact ⟨_, h, o29.ext hE⟩) <| LastsL.nil
        · refine StepsB.cons ?_ <| StepsB.cons ?_ <| StepsB.cons ?_ <| StepsB.cons ?_ <| StepsB.cons ?_ <| StepsB.cons ?_ <| StepsB.cons ?_ <| StepsB.cons ?_ <| StepsB.cons ?_ <| StepsB.cons ?_ <| StepsB.cons ?_ <| StepsB.cons ?_ <| StepsB.cons ?_ <| StepsB.cons ?_ <| StepsB.cons ?_ <| StepsB.cons ?_ <| StepsB.cons ?_ <| StepsB.cons ?_ <| StepsB.nil
          · intro ρ w a hw hG hf hd K hK
            obtain ⟨o2, hn38, o23⟩ := hG
            exact dv_ hK hw (wn rfl) (r_move hf rfl) rfl
          · intro ρ w a hw hG hf hd K hK
            obtain ⟨o2, hn38, o23⟩ := hG
            exact dv_ hK hw (wn rfl) (r_move hf rfl) rfl
          · intro ρ w a hw hG hf hd K hK
            obtain ⟨o2, hn38, o23⟩ := hG
            exact dv_ hK hw (wn rfl) (r_move hf rfl) rfl
          · intro ρ w a hw hG hf hd K hK
            obtain ⟨o2, hn38, o23⟩ := hG
            exact dv_ hK hw (wn rfl) (r_move hf rfl) rfl
          · intro ρ w a hw hG hf hd K hK
            obtain ⟨o2, hn38, o23⟩ := hG
            obtain ⟨_, hf, rfl⟩ := got (hd 2 (by kernel_rfl)) hf
            obtain ⟨_, hf, rfl⟩ := got (hd 3 (by kernel_rfl)) hf
            obtain ⟨ad64, hl64⟩ := Ow.ce (d := fRef f52) o2.out 0 hc54.1 hc54.2
            have hn64 := o2.lt_gl hc54.1 hc54.2
            exact dv_ hK hw (wn rfl) (r_idx Try.underlying24 sz36 hf rfl hl64.at_ rfl hc54.1 hc54.2) (ex_ <| an_ rfl <| an_ hn64 <| hl64)
          · intro ρ w a hw hG hf hd K hK
            obtain ⟨o2, hn38, o23⟩ := hG
            obtain ⟨_, hf, ⟨ad64, rfl, hn64, hl64⟩⟩ := got (hd 4 (by kernel_rfl)) hf
            exact dv_ hK hw (wn rfl) (r_load_cell ty36 hf rfl hl64.co.cl) (an_ rfl <| hn64)
          · intro ρ w a hw hG hf hd K hK
            obtain ⟨o2, hn38, o23⟩ := hG
            exact dv_ hK hw (wn rfl) (r_move hf rfl) rfl
          · intro ρ w a hw hG hf hd K hK
            obtain ⟨o2, hn38, o23⟩ := hG
            obtain ⟨_, hf, ⟨rfl, hn64⟩⟩ := got (hd 5 (by kernel_rfl)) hf
            obtain ⟨_, hf, rfl⟩ := got (hd 6 (by kernel_rfl)) hf
            obtain ⟨ad66, hl66⟩ := Ow.ce (d := fI64) (o2.rowAt hn64) 0 hc65.1 hc65.2
            exact dv_ hK hw (wn rfl) (r_idx Try.underlying36 sz2 hf rfl hl66.at_ rfl hc65.1 hc65.2) (ex_ <| an_ rfl <| hl66)
          · intro ρ w a hw hG hf hd K hK
            obtain ⟨o2, hn38, o23⟩ := hG
            obtain ⟨_, hf, ⟨ad66, rfl, hl66⟩⟩ := got (hd 7 (by kernel_rfl)) hf
            exact dv_ hK hw (wn rfl) (r_load_cell ty2 hf rfl hl66.co.cl) rfl
          · intro ρ w a hw hG hf hd K hK
            obtain ⟨o2, hn38, o23⟩ := hG
            exact dv_ hK hw (wn rfl) (r_move hf rfl) rfl
          · intro ρ w a hw hG hf hd K hK
            obtain ⟨o2, hn38, o23⟩ := hG
            exact dv_ hK hw (wn rfl) (r_move hf rfl) rfl
          · intro ρ w a hw hG hf hd K hK
            obtain ⟨o2, hn38, o23⟩ := hG
            exact dv_ hK hw (wn rfl) (r_move hf rfl) rfl
          · intro ρ w a hw hG hf hd K hK
            obtain ⟨o2, hn38, o23⟩ := hG
            obtain ⟨_, hf, rfl⟩ := got (hd 10 (by kernel_rfl)) hf
            obtain ⟨_, hf, rfl⟩ := got (hd 11 (by kernel_rfl)) hf
            obtain ⟨ad68, hl68⟩ := Ow.ce (d := fI64) (o2.rowAt hn38) 0 hc67.1 hc67.2
            exact dv_ hK hw (wn rfl) (r_idx Try.underlying36 sz2 hf rfl hl68.at_ rfl hc67.1 hc67.2) (ex_ <| an_ rfl <| hl68)
          · intro ρ w a hw hG hf hd K hK
            obtain ⟨o2, hn38, o23⟩ := hG
            obtain ⟨_, hf, ⟨ad68, rfl, hl68⟩⟩ := got (hd 12 (by kernel_rfl)) hf
            exact dv_ hK hw (wn rfl) (r_load_cell ty2 hf rfl hl68.co.cl) rfl
          · intro ρ w a hw hG hf hd K hK
            obtain ⟨o2, hn38, o23⟩ := hG
            obtain ⟨_, hf, rfl⟩ := got (hd 9 (by kernel_rfl)) hf
            obtain ⟨_, hf, rfl⟩ := got (hd 13 (by kernel_rfl)) hf
            exact dv_ hK hw (wn rfl) (r_mul hf rfl rfl) rfl
          · intro ρ w a hw hG hf hd K hK
            obtain ⟨o2, hn38, o23⟩ := hG
            obtain ⟨_, hf, rfl⟩ := got (hd 8 (by kernel_rfl)) hf
            obtain ⟨_, hf, rfl⟩ := got (hd 14 (by kernel_rfl)) hf
            exact dv_ hK hw (wn rfl) (r_sub hf rfl rfl) rfl
          · intro ρ w a hw hG hf hd K hK
            obtain ⟨o2, hn38, o23⟩ := hG
            obtain ⟨_, hf, rfl⟩ := got (hd 1 (by kernel_rfl)) hf
            obtain ⟨_, hf, rfl⟩ := got (hd 15 (by kernel_rfl)) hf
            refine dc_ hK hw (wn rfl) (r_fn en114 hf rfl) (spec_l01Mod_ok  hx70) fun v w' hΦ => ?_
            obtain ⟨hb, hΦ⟩ := hΦ
            obtain rfl := hΦ
            have hE := Ext.new (ρ := ρ) 28 hb
            exact ⟨_, hw.new 28 hb, hE, rfl⟩
          · intro ρ w a hw hG hf hd K hK
            obtain ⟨o2, hn38, o23⟩ := hG
            obtain ⟨_, hf, rfl⟩ := got (hd 16 (by kernel_rfl)) hf
            refine dx_ hK hw (wn rfl) (r_lit (d := fI64) (xs := ([x69] : List Int)) (vs := [vI x69]) 29 Try.underlying36 el2 (Nat.le_of_ble_eq_true rfl) (Nat.le_of_ble_eq_true rfl) hw hf rfl rfl rfl) fun v29 w' hΦ => ?_
            obtain ⟨ρ, hw, hE, o29⟩ := hΦ
            exact ⟨_, hw, hE, ex_ <| an_ rfl <| o29⟩
        intro ρ w a hw hG hf hd
        obtain ⟨o2, hn38, o23⟩ := hG
        obtain ⟨_, hf, rfl⟩ := got (hd 0 (by decide)) hf
        obtain ⟨_, hf, ⟨v29, rfl, o29⟩⟩ := got (hd 17 (by decide)) hf
        obtain ⟨hc71, hF⟩ := of_guard hF
        refine sx_ hf (r_append Try.underlying36 el2 hw (by decide) o23 o29.ro hc71 hf rfl rfl) fun a va72 w hf hΦ => ?_
        obtain ⟨ρ, hw, hA, o23⟩ := hΦ
        replace o2 := o2.adv hA (by decide) (fun _ => by unfold lab; omega)
        replace o29 := o29.adv hA (by decide)
        refine s_ hf (r_assign hf rfl) fun a hf => ?_
        refine c_nil <| n_block <| n_then <| c_region ?_
        refine s_ hf (r_move hf rfl) fun a hf => ?_
        refine s_ hf (r_add hf rfl rfl) fun a hf => ?_
        refine s_ hf (r_assign hf rfl) fun a hf => ?_
        refine c_nil ?_
        obtain rfl := Option.some.inj hF
        exact Rnd.goes ⟨_, _, hw, hf.sub ⟨rfl, rfl, rfl, rfl, rfl, rfl, rfl, rfl, rfl, rfl, rfl, rfl, trivial⟩, o2, hn38, o23⟩
      rintro ⟨s60, s61⟩ a w hs ⟨ρ, vv62, hw, hf, o2, hn38, o23⟩
      subst hs
      have hF := hG59
      dsimp only at hF
      refine x_block <| n_then <| c_region ?_
      refine s_ hf (r_move hf rfl) fun a hf => ?_
      refine s_ hf (r_move hf rfl) fun a hf => ?_
      refine s_ hf (r_move hf rfl) fun a hf => ?_
      obtain ⟨ad73, hl73⟩ := Ow.ce (d := fRef f52) o2.out 0 hc54.1 hc54.2
      have hn73 := o2.lt_gl hc54.1 hc54.2
      refine s_ hf (r_idx Try.underlying24 sz36 hf rfl hl73.at_ rfl hc54.1 hc54.2) fun a hf => ?_
      refine sk_ hf (r_gput (p := s49) hw (by decide) (by decide) (fun _ => by unfold lab; omega) o2 o23 hc54.1 hc54.2 hl73.at_ ty36 rfl hf rfl rfl) fun a w hf hΦ => ?_
      obtain ⟨f74, ρ, hw, hT, o2, hff74, hnu74⟩ := hΦ
      rw [hff74 _ hn38] at hf
      rw [hnu74] at hf
      replace hn38 : (gl 0 s22 s27) < (s51 ++ [s61]).length := by simp only [List.length_append, List.length_set]; omega
      replace hn73 : (gl 0 s50 s49) < (s51 ++ [s61]).length := by simp only [List.length_append, List.length_set]; omega
      have hn75 : s51.length < (s51 ++ [s61]).length := by simp
      refine c_nil <| n_block <| n_then <| c_region ?_
      refine s_ hf (r_move hf rfl) fun a hf => ?_
      refine s_ hf (r_add hf rfl rfl) fun a hf => ?_
      refine s_ hf (r_assign hf rfl) fun a hf => ?_
      refine c_nil ?_
      obtain rfl := Option.some.inj hF
      exact Rnd.goes ⟨_, _, hw, hf.sub ⟨rfl, rfl, rfl, rfl, rfl, rfl, rfl, rfl, rfl, trivial⟩, o2, hn38⟩
    rintro ⟨s49, s50, s51⟩ a w hs ⟨ρ, f52, hw, hf, o2⟩
    subst hs
    have hF := hG48
    dsimp only at hF
    refine x_block <| n_then <| c_region ?_
    refine s_ hf (r_move hf rfl) fun a hf => ?_
    refine s_ hf (r_add hf rfl rfl) fun a hf => ?_
    refine s_ hf (r_assign hf rfl) fun a hf => ?_
    refine c_nil <| n_block <| n_then <| c_region ?_
    refine s_ hf (r_move hf rfl) fun a hf => ?_
    refine s_ hf (r_add hf rfl rfl) fun a hf => ?_
    refine s_ hf (r_assign hf rfl) fun a hf => ?_
    refine c_nil ?_
    obtain rfl := Option.some.inj hF
    exact Rnd.goes ⟨_, _, hw, hf.sub ⟨rfl, rfl, rfl, rfl, rfl, rfl, trivial⟩, o2⟩
  rintro ⟨s20, s21, s22, s23⟩ a w hs ⟨ρ, hw, hf⟩
  subst hs
  have hF := hG19
  dsimp only at hF
  refine x_block <| n_then <| c_seq <| c_region ?_
  refine s_ hf (r_move hf rfl) fun a hf => ?_
  refine s_ hf (r_assign hf rfl) fun a hf => ?_
  refine c_nt <| c_retc ?_
  obtain rfl := Option.some.inj hF
  refine c_ret hf (res_tmp Try.results127 hf rfl) ?_
  exact ⟨_, rfl, hw.below, rfl⟩
/-! f38 -/
noncomputable def laws_eqInt64SS_l2 (a0 : List (List Int)) (a1 : List (List Int)) (s3 : Int) : Option (LR Int Bool) :=
  if (decide (s3 < (a0.length : Int))) = true then (if 0 ≤ s3 ∧ s3 < (a0.length : Int) then (if 0 ≤ s3 ∧ s3 < (a1.length : Int) then ((laws_eqInt64S (gl [] a0 s3) (gl [] a1 s3)).bind fun x9 => if (!x9) = true then (some (.ret false)) else (some (.next (w64 (s3 + 1))))) else none) else none) else (some (.stop s3))
noncomputable def laws_eqInt64SS (a0 : List (List Int)) (a1 : List (List Int)) : Option Bool :=
  if (decide ((a0.length : Int) ≠ (a1.length : Int))) = true then (some (false)) else ((iter (fun s => laws_eqInt64SS_l2 a0 a1 s) 0).bind fun o => match o with | .stop s3 => (some (true)) | .ret r => some r | .next _ => none)
theorem laws_eqInt64SS_ok {w0 : World} {a0 : List (List Int)} {a1 : List (List Int)} {va0 : Value} {va1 : Value} (h0 : Ro (Kd.slice 2 (kf fI64)) w0 va0 a0) (h1 : Ro (Kd.slice 2 (kf fI64)) w0 va1 a1) {r : Bool} (hF : laws_eqInt64SS a0 a1 = some r) :
    Calls Try.prog 38 [va0, va1].toArray w0 fun e w => ∃ v, e = .returned v ∧ Below w0.heap.size w0 w ∧ .bool r = v := by
  refine calls_of (k := 27) Try.func38 rfl rfl (Nat.le_of_ble_eq_true rfl) fun a hf => ?_
  replace hf : Fr 27 a [(0, va0), (1, va1)] := hf
  refine c_start fun w ρ hw => ?_
  unfold laws_eqInt64SS at hF
  refine c_seq <| c_region ?_
  refine s_ hf (r_assign hf rfl) fun a hf => ?_
  refine c_nt <| c_seq <| c_seq <| c_region ?_
  refine s_ hf (r_move hf rfl) fun a hf => ?_
  refine s_ hf (r_len Try.underlying24 (h0.now hw) hf rfl) fun a hf => ?_
  refine s_ hf (r_move hf rfl) fun a hf => ?_
  refine s_ hf (r_len Try.underlying24 (h1.now hw) hf rfl) fun a hf => ?_
  refine s_ hf (r_neq hf rfl rfl) fun a hf => ?_
  refine c_nt ?_
  rcases of_ite hF with ⟨hb1, hF⟩ | ⟨hb1, hF⟩
  · refine c_ift hf rfl hb1 <| c_seq <| c_region ?_
    refine s_ hf (r_assign hf rfl) fun a hf => ?_
    refine c_nt <| c_retc ?_
    obtain rfl := Option.some.inj hF
    refine r_then <| c_ret hf (res_tmp Try.results38 hf rfl) ?_
    exact ⟨_, rfl, hw.below, rfl⟩
  refine c_iff hf rfl hb1 <| c_skip <| n_then <| c_seq <| c_seq <| c_region ?_
  refine s_ hf (r_assign hf rfl) fun a hf => ?_
  refine c_nt ?_
  obtain ⟨ol2, ho2, hG2⟩ := of_bind hF
  clear hF
  refine c_block (c_loop (id := 0) (fun s => laws_eqInt64SS_l2 a0 a1 s) (fun (s3 : Int) a w => ∃ ρ, Wd w0 ρ w ∧ Fr 27 a [(0, va0), (1, va1), (5, vI s3)]) (fun (s3 : Int) a w => ∃ ρ, Wd w0 ρ w ∧ Fr 27 a []) ho2 ⟨_, hw, hf.sub ⟨rfl, rfl, rfl, trivial⟩⟩ ?_ ?_)
  · rintro s3 lr a w ⟨ρ, hw, hf⟩ hF
    replace hF : laws_eqInt64SS_l2 a0 a1 s3 = some lr := hF
    unfold laws_eqInt64SS_l2 at hF
    refine c_seq <| c_seq <| c_region ?_
    refine s_ hf (r_move hf rfl) fun a hf => ?_
    refine s_ hf (r_move hf rfl) fun a hf => ?_
    refine s_ hf (r_len Try.underlying24 (h0.now hw) hf rfl) fun a hf => ?_
    refine s_ hf (r_lss hf rfl rfl) fun a hf => ?_
    refine c_nt ?_
    rcases of_ite hF with ⟨hb4, hF⟩ | ⟨hb4, hF⟩
    rotate_left
    · refine c_iff hf rfl hb4 <| c_exit <| x_then ?_
      obtain rfl := Option.some.inj hF
      exact Rnd.stops ⟨_, hw, hf.sub trivial⟩
    refine c_ift hf rfl hb4 <| c_skip <| n_then <| c_seq <| c_block <| c_seq ?_
    obtain ⟨hc5, hF⟩ := of_guard hF
    obtain ⟨ad6, c6, u6, he6, hl6, ho6⟩ := Ro.el_row h0 hc5.1 hc5.2
    obtain ⟨hc7, hF⟩ := of_guard hF
    obtain ⟨ad8, c8, u8, he8, hl8, ho8⟩ := Ro.el_row h1 hc7.1 hc7.2
    replace hf : Fr 27 a [(0, va0), (1, va1), (5, vI s3)] := hf.sub ⟨rfl, rfl, rfl, trivial⟩
    refine c_drawL (h := 8) mixed (by kernel_rfl) (by kernel_rfl) (fun ρ w => True) ?_ [fun ρ w v => va0 = v, fun ρ w v => vI s3 = v, fun ρ w v => .pointer (some (ad6.add (s3.toNat * 1))) = v, fun ρ w v => u6 = v, fun ρ w v => va1 = v, fun ρ w v => vI s3 = v, fun ρ w v => .pointer (some (ad8.add (s3.toNat * 1))) = v, fun ρ w v => u8 = v] ?_ hw trivial hf ?_ ?_
    · intro ρ w ρ' w' hE hG
      skip
      exact trivial
    · exact LastsL.cons (fun _ _ _ _ _ _ h => h) <| LastsL.cons (fun _ _ _ _ _ _ h => h) <| LastsL.cons (fun _ _ _ _ _ _ h => h) <| LastsL.cons (fun _ _ _ _ _ _ h => h) <| LastsL.cons (fun _ _ _ _ _ _ h => h) <| LastsL.cons (fun _ _ _ _ _ _ h => h) <| LastsL.cons (fun _ _ _ _ _ _ h => h) <| LastsL.cons (fun _ _ _ _ _ _ h => h) <| LastsL.nil
    · refine StepsB.cons ?_ <| StepsB.cons ?_ <| StepsB.cons ?_ <| StepsB.cons ?_ <| StepsB.cons ?_ <| StepsB.cons ?_ <| StepsB.cons ?_ <| StepsB.cons ?_ <| StepsB.nil
      · intro ρ w a hw hG hf hd K hK
        exact dv_ hK hw (wn rfl) (r_move hf rfl) rfl
      · intro ρ w a hw hG hf hd K hK
        exact dv_ hK hw (wn rfl) (r_move hf rfl) rfl
      · intro ρ w a hw hG hf hd K hK
        obtain ⟨_, hf, rfl⟩ := got (hd 0 (by kernel_rfl)) hf
        obtain ⟨_, hf, rfl⟩ := got (hd 1 (by kernel_rfl)) hf
        exact dv_ hK hw (wn rfl) (r_idx Try.underlying24 sz36 hf rfl ⟨_, he6⟩ rfl hc5.1 hc5.2) rfl
      · intro ρ w a hw hG hf hd K hK
        obtain ⟨_, hf, rfl⟩ := got (hd 2 (by kernel_rfl)) hf
        exact dv_ hK hw (wn rfl) (r_load_cell ty36 hf rfl (hl6.below hw.below)) rfl
      · intro ρ w a hw hG hf hd K hK
        exact dv_ hK hw (wn rfl) (r_move hf rfl) rfl
      · intro ρ w a hw hG hf hd K hK
        exact dv_ hK hw (wn rfl) (r_move hf rfl) rfl
      · intro ρ w a hw hG hf hd K hK
        obtain ⟨_, hf, rfl⟩ := got (hd 4 (by kernel_rfl)) hf
        obtain ⟨_, hf, rfl⟩ := got (hd 5 (by kernel_rfl)) hf
        exact dv_ hK hw (wn rfl) (r_idx Try.underlying24 sz36 hf rfl ⟨_, he8⟩ rfl hc7.1 hc7.2) rfl
      · intro ρ w a hw hG hf hd K hK
        obtain ⟨_, hf, rfl⟩ := got (hd 6 (by kernel_rfl)) hf
        exact dv_ hK hw (wn rfl) (r_load_cell ty36 hf rfl (hl8.below hw.below)) rfl
    intro ρ w a hw hG hf hd
    obtain ⟨_, hf, rfl⟩ := got (hd 3 (by decide)) hf
    obtain ⟨_, hf, rfl⟩ := got (hd 7 (by decide)) hf
    obtain ⟨x9, hx10, hF⟩ := of_bind hF
    refine st_fn 1 hw hf rfl rfl (by decide) (r_fn en88 hf rfl) (laws_eqInt64S_ok (ho6.now hw) (ho8.now hw) hx10) fun a v w ρ hf hw hE hN hΦ => ?_
    obtain rfl := hΦ
    refine s_ hf (r_not hf rfl) fun a hf => ?_
    refine c_nt ?_
    rcases of_ite hF with ⟨hb11, hF⟩ | ⟨hb11, hF⟩
    rotate_left
    · refine c_iff hf rfl hb11 <| c_skip <| n_block <| n_then <| c_region ?_
      refine s_ hf (r_move hf rfl) fun a hf => ?_
      refine s_ hf (r_add hf rfl rfl) fun a hf => ?_
      refine s_ hf (r_assign hf rfl) fun a hf => ?_
      refine c_nil ?_
      obtain rfl := Option.some.inj hF
      exact Rnd.goes ⟨_, hw, hf.sub ⟨rfl, rfl, rfl, trivial⟩⟩
    refine c_ift hf rfl hb11 <| c_seq <| c_region ?_
    refine s_ hf (r_assign hf rfl) fun a hf => ?_
    refine c_nt <| c_retc ?_
    obtain rfl := Option.some.inj hF
    refine r_block <| r_then ?_
    refine Rnd.rets fun ho => ?_
    subst ho
    have hF := hG2
    dsimp only at hF
    obtain rfl := Option.some.inj hF
    refine r_block <| r_then <| c_ret hf (res_tmp Try.results38 hf rfl) ?_
    exact ⟨_, rfl, hw.below, rfl⟩
  rintro s3 a w hs ⟨ρ, hw, hf⟩
  subst hs
  have hF := hG2
  dsimp only at hF
  refine x_block <| n_then <| c_seq <| c_region ?_
  refine s_ hf (r_assign hf rfl) fun a hf => ?_
  refine c_nt <| c_retc ?_
  obtain rfl := Option.some.inj hF
  refine c_ret hf (res_tmp Try.results38 hf rfl) ?_
  exact ⟨_, rfl, hw.below, rfl⟩
/-! f41 -/
noncomputable def laws_markInt64SS_l1 (a0 : List (List Int)) (s2 : Int) (s3 : Int) (s4 : List (List Int)) : Option (LR (Int × Int × (List (List Int))) (Int × (List (List Int)))) :=
  if (decide (s3 < ((List.range a0.length).length : Int))) = true then (if 0 ≤ s3 ∧ s3 < ((List.range a0.length).length : Int) then ((laws_markInt64S (s4.getD (gl 0 (List.range a0.length) s3) []) s2).bind fun x8 => some (.next (x8.1, w64 (s3 + 1), (s4.set (gl 0 (List.range a0.length) s3) x8.2)))) else none) else (some (.stop (s2, s3, s4)))
noncomputable def laws_markInt64SS (a0 : List (List Int)) (a1 : Int) : Option (Int × (List (List Int))) :=
  (iter (fun s => laws_markInt64SS_l1 a0 s.1 s.2.1 s.2.2) (a1, 0, a0)).bind fun o => match o with | .stop (s2, s3, s4) => (some ((s2, s4))) | .ret r => some r | .next _ => none
theorem laws_markInt64SS_ok {w0 ws : World} {ρ0 : Nat → Nat} {i : Nat} (hW : Wd w0 ρ0 ws) {a0 : List (List Int)} {a1 : Int} {va0 : Value} {f0 : Nat → V1} (h0 : Gd fI64 2 36 ρ0 ws w0.heap.size i va0 f0 (List.range a0.length) a0) {r : Int × (List (List Int))} (hF : laws_markInt64SS a0 a1 = some r) :
    Calls Try.prog 41 [va0, vI a1].toArray ws fun e w => ∃ v, e = .returned v ∧ ∃ ρ', Wd w0 ρ' w ∧ AdvG i ρ0 ws ρ' w ∧ .int .i64 r.1 = v ∧ Gd fI64 2 36 ρ' w w0.heap.size i va0 f0 (List.range a0.length) r.2 := by
  refine calls_of (k := 19) Try.func41 rfl rfl (Nat.le_of_ble_eq_true rfl) fun a hf => ?_
  replace hf : Fr 19 a [(0, va0), (1, vI a1)] := hf
  refine c_startg hW h0 fun w ρ hw oA o1 => ?_
  unfold laws_markInt64SS at hF
  refine c_seq <| c_region ?_
  refine s_ hf (r_assign hf rfl) fun a hf => ?_
  refine c_nt <| c_seq <| c_seq <| c_region ?_
  refine s_ hf (r_assign hf rfl) fun a hf => ?_
  refine c_nt ?_
  obtain ⟨ol1, ho1, hG1⟩ := of_bind hF
  clear hF
  refine c_block (c_loop (id := 0) (fun s => laws_markInt64SS_l1 a0 s.1 s.2.1 s.2.2) (fun (s : Int × Int × (List (List Int))) a w => match s with | (s2, s3, s4) => ∃ ρ, Wd w0 ρ w ∧ Fr 19 a [(0, va0), (1, vI s2), (5, vI s3)] ∧ Old (gOf ρ0 i) ws ρ w ∧ Gd fI64 2 36 ρ w w0.heap.size 1 va0 f0 (List.range a0.length) s4) (fun (s : Int × Int × (List (List Int))) a w => match s with | (s2, s3, s4) => ∃ ρ, Wd w0 ρ w ∧ Fr 19 a [(1, vI s2)] ∧ Old (gOf ρ0 i) ws ρ w ∧ Gd fI64 2 36 ρ w w0.heap.size 1 va0 f0 (List.range a0.length) s4) ho1 ⟨_, hw, hf.sub ⟨rfl, rfl, rfl, trivial⟩, oA, o1⟩ ?_ ?_)
  · rintro ⟨s2, s3, s4⟩ lr a w ⟨ρ, hw, hf, oA, o1⟩ hF
    replace hF : laws_markInt64SS_l1 a0 s2 s3 s4 = some lr := hF
    unfold laws_markInt64SS_l1 at hF
    refine c_seq <| c_seq <| c_region ?_
    refine s_ hf (r_move hf rfl) fun a hf => ?_
    refine s_ hf (r_move hf rfl) fun a hf => ?_
    refine s_ hf (r_len Try.underlying24 o1.out.ro hf rfl) fun a hf => ?_
    refine s_ hf (r_lss hf rfl rfl) fun a hf => ?_
    refine c_nt ?_
    rcases of_ite hF with ⟨hb5, hF⟩ | ⟨hb5, hF⟩
    rotate_left
    · refine c_iff hf rfl hb5 <| c_exit <| x_then ?_
      obtain rfl := Option.some.inj hF
      exact Rnd.stops ⟨_, hw, hf.sub ⟨rfl, trivial⟩, oA, o1⟩
    refine c_ift hf rfl hb5 <| c_skip <| n_then <| c_seq <| c_block <| c_region ?_
    refine s_ hf (r_move hf rfl) fun a hf => ?_
    refine s_ hf (r_move hf rfl) fun a hf => ?_
    obtain ⟨hc6, hF⟩ := of_guard hF
    obtain ⟨ad7, hl7⟩ := Ow.ce (d := fRef f0) o1.out 0 hc6.1 hc6.2
    have hn7 := o1.lt_gl hc6.1 hc6.2
    refine s_ hf (r_idx Try.underlying24 sz36 hf rfl hl7.at_ rfl hc6.1 hc6.2) fun a hf => ?_
    refine s_ hf (r_load_cell ty36 hf rfl hl7.co.cl) fun a hf => ?_
    refine s_ hf (r_move hf rfl) fun a hf => ?_
    obtain ⟨x8, hx9, hF⟩ := of_bind hF
    refine st_mfn hf rfl rfl (by decide) (r_fn en91 hf rfl) (laws_markInt64S_ok (by unfold lab; omega) hw (o1.rowAt hn7) hx9) fun a v w ρ hf hw hA hΦ => ?_
    obtain ⟨rfl, hr10⟩ := hΦ
    replace oA := oA.adv hA (by unfold lab; omega)
    replace hl7 := hl7.adv hA (by unfold lab; omega)
    replace o1 := o1.put_row hn7 hA hr10
    replace hn7 : (gl 0 (List.range a0.length) s3) < (s4.set (gl 0 (List.range a0.length) s3) x8.2).length := by simp only [List.length_append, List.length_set]; omega
    refine s_ hf (r_assign hf rfl) fun a hf => ?_
    refine c_nil <| n_block <| n_then <| c_region ?_
    refine s_ hf (r_move hf rfl) fun a hf => ?_
    refine s_ hf (r_add hf rfl rfl) fun a hf => ?_
    refine s_ hf (r_assign hf rfl) fun a hf => ?_
    refine c_nil ?_
    obtain rfl := Option.some.inj hF
    exact Rnd.goes ⟨_, hw, hf.sub ⟨rfl, rfl, rfl, trivial⟩, oA, o1⟩
  rintro ⟨s2, s3, s4⟩ a w hs ⟨ρ, hw, hf, oA, o1⟩
  subst hs
  have hF := hG1
  dsimp only at hF
  refine x_block <| n_then <| c_seq <| c_region ?_
  refine s_ hf (r_move hf rfl) fun a hf => ?_
  refine s_ hf (r_assign hf rfl) fun a hf => ?_
  refine c_nt <| c_retc ?_
  obtain rfl := Option.some.inj hF
  refine c_ret hf (res_tmp Try.results41 hf rfl) ?_
  exact ⟨_, rfl, _, g_wd hW hw oA, g_adv oA h0.small.2, rfl, g_gd oA h0.small o1⟩
/-! f42 -/
noncomputable def laws_heldInt64SS_l1 (a0 : List (List Int)) (s2 : Int) (s3 : Int) : Option (LR (Int × Int) Int) :=
  if (decide (s3 < (a0.length : Int))) = true then (if 0 ≤ s3 ∧ s3 < (a0.length : Int) then ((laws_heldInt64S (gl [] a0 s3) s2).bind fun x7 => if (decide (x7 < 0)) = true then (some (.ret (-1))) else (some (.next (x7, w64 (s3 + 1))))) else none) else (some (.stop (s2, s3)))
noncomputable def laws_heldInt64SS (a0 : List (List Int)) (a1 : Int) : Option Int :=
  (iter (fun s => laws_heldInt64SS_l1 a0 s.1 s.2) (a1, 0)).bind fun o => match o with | .stop (s2, s3) => (some (s2)) | .ret r => some r | .next _ => none
theorem laws_heldInt64SS_ok {w0 : World} {a0 : List (List Int)} {a1 : Int} {va0 : Value} (h0 : Ro (Kd.slice 2 (kf fI64)) w0 va0 a0) {r : Int} (hF : laws_heldInt64SS a0 a1 = some r) :
    Calls Try.prog 42 [va0, vI a1].toArray w0 fun e w => ∃ v, e = .returned v ∧ Below w0.heap.size w0 w ∧ .int .i64 r = v := by
  refine calls_of (k := 21) Try.func42 rfl rfl (Nat.le_of_ble_eq_true rfl) fun a hf => ?_
  replace hf : Fr 21 a [(0, va0), (1, vI a1)] := hf
  refine c_start fun w ρ hw => ?_
  unfold laws_heldInt64SS at hF
  refine c_seq <| c_region ?_
  refine s_ hf (r_assign hf rfl) fun a hf => ?_
  refine c_nt <| c_seq <| c_seq <| c_region ?_
  refine s_ hf (r_assign hf rfl) fun a hf => ?_
  refine c_nt ?_
  obtain ⟨ol1, ho1, hG1⟩ := of_bind hF
  clear hF
  refine c_block (c_loop (id := 0) (fun s => laws_heldInt64SS_l1 a0 s.1 s.2) (fun (s : Int × Int) a w => match s with | (s2, s3) => ∃ ρ, Wd w0 ρ w ∧ Fr 21 a [(0, va0), (1, vI s2), (5, vI s3)]) (fun (s : Int × Int) a w => match s with | (s2, s3) => ∃ ρ, Wd w0 ρ w ∧ Fr 21 a [(1, vI s2)]) ho1 ⟨_, hw, hf.sub ⟨rfl, rfl, rfl, trivial⟩⟩ ?_ ?_)
  · rintro ⟨s2, s3⟩ lr a w ⟨ρ, hw, hf⟩ hF
    replace hF : laws_heldInt64SS_l1 a0 s2 s3 = some lr := hF
    unfold laws_heldInt64SS_l1 at hF
    refine c_seq <| c_seq <| c_region ?_
    refine s_ hf (r_move hf rfl) fun a hf => ?_
    refine s_ hf (r_move hf rfl) fun a hf => ?_
    refine s_ hf (r_len Try.underlying24 (h0.now hw) hf rfl) fun a hf => ?_
    refine s_ hf (r_lss hf rfl rfl) fun a hf => ?_
    refine c_nt ?_
    rcases of_ite hF with ⟨hb4, hF⟩ | ⟨hb4, hF⟩
    rotate_left
    · refine c_iff hf rfl hb4 <| c_exit <| x_then ?_
      obtain rfl := Option.some.inj hF
      exact Rnd.stops ⟨_, hw, hf.sub ⟨rfl, trivial⟩⟩
    refine c_ift hf rfl hb4 <| c_skip <| n_then <| c_seq <| c_block <| c_seq <| c_region ?_
    refine s_ hf (r_move hf rfl) fun a hf => ?_
    refine s_ hf (r_move hf rfl) fun a hf => ?_
    obtain ⟨hc5, hF⟩ := of_guard hF
    obtain ⟨ad6, c6, u6, he6, hl6, ho6⟩ := Ro.el_row h0 hc5.1 hc5.2
    refine s_ hf (r_idx Try.underlying24 sz36 hf rfl ⟨_, he6⟩ rfl hc5.1 hc5.2) fun a hf => ?_
    refine s_ hf (r_load_cell ty36 hf rfl (hl6.below hw.below)) fun a hf => ?_
    refine s_ hf (r_move hf rfl) fun a hf => ?_
    obtain ⟨x7, hx8, hF⟩ := of_bind hF
    refine st_fn 1 hw hf rfl rfl (by decide) (r_fn en92 hf rfl) (laws_heldInt64S_ok (ho6.now hw) hx8) fun a v w ρ hf hw hE hN hΦ => ?_
    obtain rfl := hΦ
    refine s_ hf (r_assign hf rfl) fun a hf => ?_
    refine c_nt <| c_seq <| c_region ?_
    refine s_ hf (r_move hf rfl) fun a hf => ?_
    refine s_ hf (r_lss hf rfl rfl) fun a hf => ?_
    refine c_nt ?_
    rcases of_ite hF with ⟨hb9, hF⟩ | ⟨hb9, hF⟩
    rotate_left
    · refine c_iff hf rfl hb9 <| c_skip <| n_block <| n_then <| c_region ?_
      refine s_ hf (r_move hf rfl) fun a hf => ?_
      refine s_ hf (r_add hf rfl rfl) fun a hf => ?_
      refine s_ hf (r_assign hf rfl) fun a hf => ?_
      refine c_nil ?_
      obtain rfl := Option.some.inj hF
      exact Rnd.goes ⟨_, hw, hf.sub ⟨rfl, rfl, rfl, trivial⟩⟩
    refine c_ift hf rfl hb9 <| c_seq <| c_region ?_
    refine s_ hf (r_assign hf rfl) fun a hf => ?_
    refine c_nt <| c_retc ?_
    obtain rfl := Option.some.inj hF
    refine r_block <| r_then ?_
    refine Rnd.rets fun ho => ?_
    subst ho
    have hF := hG1
    dsimp only at hF
    obtain rfl := Option.some.inj hF
    refine r_block <| r_then <| c_ret hf (res_tmp Try.results42 hf rfl) ?_
    exact ⟨_, rfl, hw.below, rfl⟩
  rintro ⟨s2, s3⟩ a w hs ⟨ρ, hw, hf⟩
  subst hs
  have hF := hG1
  dsimp only at hF
  refine x_block <| n_then <| c_seq <| c_region ?_
  refine s_ hf (r_move hf rfl) fun a hf => ?_
  refine s_ hf (r_assign hf rfl) fun a hf => ?_
  refine c_nt <| c_retc ?_
  obtain rfl := Option.some.inj hF
  refine c_ret hf (res_tmp Try.results42 hf rfl) ?_
  exact ⟨_, rfl, hw.below, rfl⟩
/-! f81 -/
noncomputable def spec_RanksOf_l4 (a0 : Sch) (s5 : Int) (s6 : List Nat) (s7 : List (List Int)) : Option (LR (Int × (List Nat) × (List (List Int))) (List (List Int) × Int)) :=
  if (decide (s5 < (a0.ps.length : Int))) = true then (if 0 ≤ s5 ∧ s5 < (a0.ps.length : Int) then ((spec_l01Rank a0.p ((gl zProd a0.ps s5).1) a0.n a0.m).bind fun x13 => (spec_l01Rank a0.p ((gl zProd a0.ps s5).2.1) a0.m a0.k).bind fun x15 => (spec_l01Rank a0.p ((gl zProd a0.ps s5).2.2) a0.n a0.k).bind fun x17 => if (s6.length + 1) * 24 ≤ 140737488355328 then (some (.next (w64 (s5 + 1), (s6 ++ [s7.length]), (s7 ++ [[x13, x15, x17]])))) else none) else none) else (some (.stop (s5, s6, s7)))
noncomputable def spec_RanksOf (a0 : Sch) : Option (List (List Int) × Int) :=
  (spec_l01Is a0).bind fun x1 => if (!x1) = true then (some ((([] : List (List Int)), 1))) else ((iter (fun s => spec_RanksOf_l4 a0 s.1 s.2.1 s.2.2) (0, ([] : List Nat), ([] : List (List Int)))).bind fun o => match o with | .stop (s5, s6, s7) => (if s6.Nodup then some (((gi s6 s7), 0)) else none) | .ret r => some r | .next _ => none)
theorem spec_RanksOf_ok {w0 : World} {a0 : Sch} {va0 : Value} (h0 : Ro (kf cProd) w0 va0 a0.ps) {r : List (List Int) × Int} (hF : spec_RanksOf a0 = some r) :
    Calls Try.prog 81 [.agg ([vI a0.p, vI a0.n, vI a0.m, vI a0.k, va0]).toArray].toArray w0 fun e w => ∃ v, e = .returned v ∧ Below w0.heap.size w0 w ∧ ∃ u0, .tuple #[u0, .int .i64 r.2] = v ∧ GFresh fI64 2 36 w0 w u0 r.1 := by
  refine calls_of (k := 55) Try.func81 rfl rfl (Nat.le_of_ble_eq_true rfl) fun a hf => ?_
  replace hf : Fr 55 a [(0, .agg ([vI a0.p, vI a0.n, vI a0.m, vI a0.k, va0]).toArray)] := hf
  refine c_start fun w ρ hw => ?_
  unfold spec_RanksOf at hF
  refine c_seq <| c_region ?_
  refine sx_ hf (r_box (cs := [vI a0.p, vI a0.n, vI a0.m, vI a0.k, va0]) 1 hw hf rfl rfl) fun a v w hf hΦ => ?_
  obtain ⟨g1, ρ, rfl, hw, hE, o1⟩ := hΦ
  have o2 : Ow (Kd.slice 2 (kf fI64)) 36 ρ w w0.heap.size 2 (.slice none 0 0) [] := Ow.nil _ _ _ _ _ _
  refine s_ hf (r_assign hf rfl) fun a hf => ?_
  refine s_ hf (r_assign hf rfl) fun a hf => ?_
  refine c_nt <| c_seq <| c_seq <| c_region ?_
  refine s_ hf (r_load_agg ty39 hf rfl o1.cl rfl) fun a hf => ?_
  obtain ⟨x1, hx2, hF⟩ := of_bind hF
  refine st_fn 3 hw hf rfl rfl (by decide) (r_fn en77 hf rfl) (spec_l01Is_ok (a0 := a0) (h0.now hw) hx2) fun a v w ρ hf hw hE hN hΦ => ?_
  obtain rfl := hΦ
  replace o1 := o1.ext hE
  replace o2 := o2.ext hE
  refine s_ hf (r_not hf rfl) fun a hf => ?_
  refine c_nt ?_
  rcases of_ite hF with ⟨hb3, hF⟩ | ⟨hb3, hF⟩
  · refine c_ift hf rfl hb3 <| c_seq <| c_region ?_
    have o4 : Ow (Kd.slice 2 (kf fI64)) 36 ρ w w0.heap.size 4 (.slice none 0 0) [] := Ow.nil _ _ _ _ _ _
    refine s_ hf (r_assign hf rfl) fun a hf => ?_
    refine s_ hf (r_assign hf rfl) fun a hf => ?_
    refine c_nt <| c_retc ?_
    obtain rfl := Option.some.inj hF
    refine r_then <| c_ret hf (res_tt Try.results81 hf rfl rfl) ?_
    exact ⟨_, rfl, hw.below, ⟨_, rfl, (Gd.empty (d := fI64) (e' := 2) o4 rfl (by decide) (fun _ => (⟨.bool false, rfl⟩ : V1))).gout List.nodup_nil⟩⟩
  refine c_iff hf rfl hb3 <| c_skip <| n_then <| c_seq <| c_region ?_
  refine sx_ hf (r_lit_none (d := (Kd.slice 2 (kf fI64))) 5 Try.underlying24 el36 hw) fun a v5 w hf hΦ => ?_
  obtain ⟨ρ, hw, hE, o5⟩ := hΦ
  replace o1 := o1.ext hE
  replace o2 := o2.ext hE
  replace o5 : Gd fI64 2 36 ρ w w0.heap.size 5 v5 (fun _ => (⟨.bool false, rfl⟩ : V1)) ([] : List Nat) ([] : List (List Int)) := Gd.empty o5 rfl (by decide) _
  refine s_ hf (r_assign hf rfl) fun a hf => ?_
  refine c_nt <| c_seq <| c_seq <| c_region ?_
  refine s_ hf (r_assign hf rfl) fun a hf => ?_
  refine c_nt ?_
  obtain ⟨ol4, ho4, hG4⟩ := of_bind hF
  clear hF
  refine c_block (c_loop (id := 0) (fun s => spec_RanksOf_l4 a0 s.1 s.2.1 s.2.2) (fun (s : Int × (List Nat) × (List (List Int))) a w => match s with | (s5, s6, s7) => ∃ ρ vv8 f9, Wd w0 ρ w ∧ Fr 55 a [(1, .pointer (some ((⟨g1, 0, none⟩ : Addr).add 0))), (4, vv8), (5, vI s5)] ∧ Va ρ w 1 g1 39 ([vI a0.p, vI a0.n, vI a0.m, vI a0.k, va0]) ∧ Gd fI64 2 36 ρ w w0.heap.size 5 vv8 f9 s6 s7) (fun (s : Int × (List Nat) × (List (List Int))) a w => match s with | (s5, s6, s7) => ∃ ρ vv8 f9, Wd w0 ρ w ∧ Fr 55 a [(4, vv8)] ∧ Gd fI64 2 36 ρ w w0.heap.size 5 vv8 f9 s6 s7) ho4 ⟨_, _, _, hw, hf.sub ⟨rfl, rfl, rfl, trivial⟩, o1, o5⟩ ?_ ?_)
  · rintro ⟨s5, s6, s7⟩ lr a w ⟨ρ, vv8, f9, hw, hf, o1, o5⟩ hF
    replace hF : spec_RanksOf_l4 a0 s5 s6 s7 = some lr := hF
    unfold spec_RanksOf_l4 at hF
    refine c_seq <| c_seq <| c_region ?_
    refine s_ hf (r_move hf rfl) fun a hf => ?_
    refine s_ hf (r_fa fa39_4 hf rfl) fun a hf => ?_
    refine s_ hf (r_load_cell ty37 hf rfl (o1.cl.at_ 4 _ rfl)) fun a hf => ?_
    refine s_ hf (r_len Try.underlying37 (h0.now hw) hf rfl) fun a hf => ?_
    refine s_ hf (r_lss hf rfl rfl) fun a hf => ?_
    refine c_nt ?_
    rcases of_ite hF with ⟨hb10, hF⟩ | ⟨hb10, hF⟩
    rotate_left
    · refine c_iff hf rfl hb10 <| c_exit <| x_then ?_
      obtain rfl := Option.some.inj hF
      exact Rnd.stops ⟨_, _, _, hw, hf.sub ⟨rfl, trivial⟩, o5⟩
    refine c_ift hf rfl hb10 <| c_skip <| n_then <| c_seq <| c_block <| c_seq <| c_region ?_
    refine s_ hf (r_fa fa39_4 hf rfl) fun a hf => ?_
    refine s_ hf (r_load_cell ty37 hf rfl (o1.cl.at_ 4 _ rfl)) fun a hf => ?_
    refine s_ hf (r_move hf rfl) fun a hf => ?_
    obtain ⟨hc11, hF⟩ := of_guard hF
    obtain ⟨ad12, c12, he12, hl12⟩ := Ro.el cProd h0 zProd hc11.1 hc11.2
    refine s_ hf (r_idx Try.underlying37 sz82 hf rfl ⟨_, he12⟩ rfl hc11.1 hc11.2) fun a hf => ?_
    refine s_ hf (r_load_agg ty82 hf rfl (hl12.below hw.below) (cProd.len _)) fun a hf => ?_
    refine sx_ hf (r_alloc (cs := cProd.enc zProd) 6 ze82 rfl hw) fun a v w hf hΦ => ?_
    obtain ⟨g6, ρ, rfl, hw, hE, o6⟩ := hΦ
    replace o1 := o1.ext hE
    replace o5 := o5.ext hE
    refine sk_ hf (r_store_w (cs' := cProd.enc (gl zProd a0.ps s5)) hw o6 (by decide) ty82 (cProd.len _) (cProd.len _) (cProd.one _) hf rfl rfl rfl) fun a w hf hΦ => ?_
    obtain ⟨hw, hA, o6⟩ := hΦ
    replace o1 := o1.adv hA (by decide)
    replace o5 := o5.adv hA (by decide) (fun _ => by unfold lab; omega)
    refine c_nt ?_
    obtain ⟨x13, hx14, hF⟩ := of_bind hF
    obtain ⟨x15, hx16, hF⟩ := of_bind hF
    obtain ⟨x17, hx18, hF⟩ := of_bind hF
    replace hf : Fr 55 a [(1, .pointer (some ((⟨g1, 0, none⟩ : Addr).add 0))), (4, vv8), (5, vI s5), (6, .pointer (some ((⟨g6, 0, none⟩ : Addr).add 0)))] := hf.sub ⟨rfl, rfl, rfl, rfl, trivial⟩
    refine c_drawL (h := 30) mixed (by kernel_rfl) (by kernel_rfl) (fun ρ w => Va ρ w 1 g1 39 ([vI a0.p, vI a0.n, vI a0.m, vI a0.k, va0]) ∧ Gd fI64 2 36 ρ w w0.heap.size 5 vv8 f9 s6 s7 ∧ Va ρ w 6 g6 82 (cProd.enc (gl zProd a0.ps s5))) ?_ [fun ρ w v => vv8 = v, fun ρ w v => .pointer (some ((⟨g1, 0, none⟩ : Addr).add (0 + 0))) = v, fun ρ w v => vI a0.p = v, fun ρ w v => .pointer (some ((⟨g6, 0, none⟩ : Addr).add (0 + 0))) = v, fun ρ w v => .agg (cForm.enc ((gl zProd a0.ps s5).1)).toArray = v, fun ρ w v => .pointer (some ((⟨g1, 0, none⟩ : Addr).add (0 + 1))) = v, fun ρ w v => vI a0.n = v, fun ρ w v => .pointer (some ((⟨g1, 0, none⟩ : Addr).add (0 + 2))) = v, fun ρ w v => vI a0.m = v, fun ρ w v => vI x13 = v, fun ρ w v => .pointer (some ((⟨g1, 0, none⟩ : Addr).add (0 + 0))) = v, fun ρ w v => vI a0.p = v, fun ρ w v => .pointer (some ((⟨g6, 0, none⟩ : Addr).add (0 + 9))) = v, fun ρ w v => .agg (cForm.enc ((gl zProd a0.ps s5).2.1)).toArray = v, fun ρ w v => .pointer (some ((⟨g1, 0, none⟩ : Addr).add (0 + 2))) = v, fun ρ w v => vI a0.m = v, fun ρ w v => .pointer (some ((⟨g1, 0, none⟩ : Addr).add (0 + 3))) = v, fun ρ w v => vI a0.k = v, fun ρ w v => vI x15 = v, fun ρ w v => .pointer (some ((⟨g1, 0, none⟩ : Addr).add (0 + 0))) = v, fun ρ w v => vI a0.p = v, fun ρ w v => .pointer (some ((⟨g6, 0, none⟩ : Addr).add (0 + 18))) = v, fun ρ w v => .agg (cForm.enc ((gl zProd a0.ps s5).2.2)).toArray = v, fun ρ w v => .pointer (some ((⟨g1, 0, none⟩ : Addr).add (0 + 1))) = v, fun ρ w v => vI a0.n = v, fun ρ w v => .pointer (some ((⟨g1, 0, none⟩ : Addr).add (0 + 3))) = v, fun ρ w v => vI a0.k = v, fun ρ w v => vI x17 = v, fun ρ w v => ∃ v10, v10 = v ∧ O2 ρ w w0 10 v10 ([x13, x15, x17]), fun ρ w v => ∃ v10 v11, v11 = v ∧ O2 ρ w w0 10 v10 ([x13, x15, x17]) ∧ Gl 36 ρ w w0.heap.size 11 v11 v10] ?_ hw ⟨o1, o5, o6⟩ hf ?_ ?_
    · intro ρ w ρ' w' hE hG
      obtain ⟨o1, o5, o6⟩ := hG
      exact ⟨o1.ext hE, o5.ext hE, o6.ext hE⟩
    · exact LastsL.cons (fun _ _ _ _ _ _ h => h) <| LastsL.cons (fun _ _ _ _ _ _ h => h) <| LastsL.cons (fun _ _ _ _ _ _ h => h) <| LastsL.cons (fun _ _ _ _ _ _ h => h) <| LastsL.cons (fun _ _ _ _ _ _ h => h) <| LastsL.cons (fun _ _ _ _ _ _ h => h) <| LastsL.cons (fun _ _ _ _ _ _ h => h) <| LastsL.cons (fun _ _ _ _ _ _ h => h) <| LastsL.cons (fun _ _ _ _ _ _ h => h) <| LastsL.cons (fun _ _ _ _ _ _ h => h) <| LastsL.cons (fun _ _ _ _ _ _ h => h) <| LastsL.cons (fun _ _ _ _ _ _ h => h) <| LastsL.cons (fun _ _ _ _ _ _ h => h) <| LastsL.cons (fun _ _ _ _ _ _ h => h) <| LastsL.cons (fun _ _ _ _ _ _ h => h) <| LastsL.cons (fun _ _ _ _ _ _ h => h) <| LastsL.cons (fun _ _ _ _ _ _ h => h) <| LastsL.cons (fun _ _ _ _ _ _ h => h) <| LastsL.cons (fun _ _ _ _ _ _ h => h) <| LastsL.cons (fun _ _ _ _ _ _ h => h) <| LastsL.cons (fun _ _ _ _ _ _ h => h) <| LastsL.cons (fun _ _ _ _ _ _ h => h) <| LastsL.cons (fun _ _ _ _ _ _ h => h) <| LastsL.cons (fun _ _ _ _ _ _ h => h) <| LastsL.cons (fun _ _ _ _ _ _ h => h) <| LastsL.cons (fun _ _ _ _ _ _ h => h) <| LastsL.cons (fun _ _ _ _ _ _ h => h) <| LastsL.cons (fun _ _ _ _ _ _ h => h) <| LastsL.cons (fun _ _ _ _ _ hE h => by obtain ⟨v10, h, o10⟩ := h; exact ⟨_, h, o10.ext hE⟩) <| LastsL.cons (fun _ _ _ _ _ hE h => by obtain ⟨v10, v11, h, o10, o11⟩ := h; exact ⟨_, _, h, o10.ext hE, o11.ext hE⟩) <| LastsL.nil
    · refine StepsB.cons ?_ <| StepsB.cons ?_ <| StepsB.cons ?_ <| StepsB.cons ?_ <| StepsB.cons ?_ <| StepsB.cons ?_ <| StepsB.cons ?_ <| StepsB.cons ?_ <| StepsB.cons ?_ <| StepsB.cons ?_ <| StepsB.cons ?_ <| StepsB.cons ?_ <| StepsB.cons ?_ <| StepsB.cons ?_ <| StepsB.cons ?_ <| StepsB.cons ?_ <| StepsB.cons ?_ <| StepsB.cons ?_ <| StepsB.cons ?_ <| StepsB.cons ?_ <| StepsB.cons ?_ <| StepsB.cons ?_ <| StepsB.cons ?_ <| StepsB.cons ?_ <| StepsB.cons ?_ <| StepsB.cons ?_ <| StepsB.cons ?_ <| StepsB.cons ?_ <| StepsB.cons ?_ <| StepsB.cons ?_ <| StepsB.nil
      · intro ρ w a hw hG hf hd K hK
        obtain ⟨o1, o5, o6⟩ := hG
        exact dv_ hK hw (wn rfl) (r_move hf rfl) rfl
      · intro ρ w a hw hG hf hd K hK
        obtain ⟨o1, o5, o6⟩ := hG
        exact dv_ hK hw (wn rfl) (r_fa fa39_0 hf rfl) rfl
      · intro ρ w a hw hG hf hd K hK
        obtain ⟨o1, o5, o6⟩ := hG
        obtain ⟨_, hf, rfl⟩ := got (hd 1 (by kernel_rfl)) hf
        exact dv_ hK hw (wn rfl) (r_load_cell ty2 hf rfl (o1.cl.at_ 0 _ rfl)) rfl
      · intro ρ w a hw hG hf hd K hK
        obtain ⟨o1, o5, o6⟩ := hG
        exact dv_ hK hw (wn rfl) (r_fa fa82_0 hf rfl) rfl
      · intro ρ w a hw hG hf hd K hK
        obtain ⟨o1, o5, o6⟩ := hG
        obtain ⟨_, hf, rfl⟩ := got (hd 3 (by kernel_rfl)) hf
        exact dv_ hK hw (wn rfl) (r_load_agg ty80 hf rfl (o6.cl.lens lProd_0) (cForm.len _)) rfl
      · intro ρ w a hw hG hf hd K hK
        obtain ⟨o1, o5, o6⟩ := hG
        exact dv_ hK hw (wn rfl) (r_fa fa39_1 hf rfl) rfl
      · intro ρ w a hw hG hf hd K hK
        obtain ⟨o1, o5, o6⟩ := hG
        obtain ⟨_, hf, rfl⟩ := got (hd 5 (by kernel_rfl)) hf
        exact dv_ hK hw (wn rfl) (r_load_cell ty2 hf rfl (o1.cl.at_ 1 _ rfl)) rfl
      · intro ρ w a hw hG hf hd K hK
        obtain ⟨o1, o5, o6⟩ := hG
        exact dv_ hK hw (wn rfl) (r_fa fa39_2 hf rfl) rfl
      · intro ρ w a hw hG hf hd K hK
        obtain ⟨o1, o5, o6⟩ := hG
        obtain ⟨_, hf, rfl⟩ := got (hd 7 (by kernel_rfl)) hf
        exact dv_ hK hw (wn rfl) (r_load_cell ty2 hf rfl (o1.cl.at_ 2 _ rfl)) rfl
      · intro ρ w a hw hG hf hd K hK
        obtain ⟨o1, o5, o6⟩ := hG
        obtain ⟨_, hf, rfl⟩ := got (hd 2 (by kernel_rfl)) hf
        obtain ⟨_, hf, rfl⟩ := got (hd 4 (by kernel_rfl)) hf
        obtain ⟨_, hf, rfl⟩ := got (hd 6 (by kernel_rfl)) hf
        obtain ⟨_, hf, rfl⟩ := got (hd 8 (by kernel_rfl)) hf
        refine dc_ hK hw (wn rfl) (r_fn en127 hf rfl) (spec_l01Rank_ok  hx14) fun v w' hΦ => ?_
        obtain ⟨hb, hΦ⟩ := hΦ
        obtain rfl := hΦ
        have hE := Ext.new (ρ := ρ) 7 hb
        exact ⟨_, hw.new 7 hb, hE, rfl⟩
      · intro ρ w a hw hG hf hd K hK
        obtain ⟨o1, o5, o6⟩ := hG
        exact dv_ hK hw (wn rfl) (r_fa fa39_0 hf rfl) rfl
      · intro ρ w a hw hG hf hd K hK
        obtain ⟨o1, o5, o6⟩ := hG
        obtain ⟨_, hf, rfl⟩ := got (hd 10 (by kernel_rfl)) hf
        exact dv_ hK hw (wn rfl) (r_load_cell ty2 hf rfl (o1.cl.at_ 0 _ rfl)) rfl
      · intro ρ w a hw hG hf hd K hK
        obtain ⟨o1, o5, o6⟩ := hG
        exact dv_ hK hw (wn rfl) (r_fa fa82_1 hf rfl) rfl
      · intro ρ w a hw hG hf hd K hK
        obtain ⟨o1, o5, o6⟩ := hG
        obtain ⟨_, hf, rfl⟩ := got (hd 12 (by kernel_rfl)) hf
        exact dv_ hK hw (wn rfl) (r_load_agg ty80 hf rfl (o6.cl.lens lProd_1) (cForm.len _)) rfl
      · intro ρ w a hw hG hf hd K hK
        obtain ⟨o1, o5, o6⟩ := hG
        exact dv_ hK hw (wn rfl) (r_fa fa39_2 hf rfl) rfl
      · intro ρ w a hw hG hf hd K hK
        obtain ⟨o1, o5, o6⟩ := hG
        obtain ⟨_, hf, rfl⟩ := got (hd 14 (by kernel_rfl)) hf
        exact dv_ hK hw (wn rfl) (r_load_cell ty2 hf rfl (o1.cl.at_ 2 _ rfl)) rfl
      · intro ρ w a hw hG hf hd K hK
        obtain ⟨o1, o5, o6⟩ := hG
        exact dv_ hK hw (wn rfl) (r_fa fa39_3 hf rfl) rfl
      · intro ρ w a hw hG hf hd K hK
        obtain ⟨o1, o5, o6⟩ := hG
        obtain ⟨_, hf, rfl⟩ := got (hd 16 (by kernel_rfl)) hf
        exact dv_ hK hw (wn rfl) (r_load_cell ty2 hf rfl (o1.cl.at_ 3 _ rfl)) rfl
      · intro ρ w a hw hG hf hd K hK
        obtain ⟨o1, o5, o6⟩ := hG
        obtain ⟨_, hf, rfl⟩ := got (hd 11 (by kernel_rfl)) hf
        obtain ⟨_, hf, rfl⟩ := got (hd 13 (by kernel_rfl)) hf
        obtain ⟨_, hf, rfl⟩ := got (hd 15 (by kernel_rfl)) hf
        obtain ⟨_, hf, rfl⟩ := got (hd 17 (by kernel_rfl)) hf
        refine dc_ hK hw (wn rfl) (r_fn en127 hf rfl) (spec_l01Rank_ok  hx16) fun v w' hΦ => ?_
        obtain ⟨hb, hΦ⟩ := hΦ
        obtain rfl := hΦ
        have hE := Ext.new (ρ := ρ) 8 hb
        exact ⟨_, hw.new 8 hb, hE, rfl⟩
      · intro ρ w a hw hG hf hd K hK
        obtain ⟨o1, o5, o6⟩ := hG
        exact dv_ hK hw (wn rfl) (r_fa fa39_0 hf rfl) rfl
      · intro ρ w a hw hG hf hd K hK
        obtain ⟨o1, o5, o6⟩ := hG
        obtain ⟨_, hf, rfl⟩ := got (hd 19 (by kernel_rfl)) hf
        exact dv_ hK hw (wn rfl) (r_load_cell ty2 hf rfl (o1.cl.at_ 0 _ rfl)) rfl
      · intro ρ w a hw hG hf hd K hK
        obtain ⟨o1, o5, o6⟩ := hG
        exact dv_ hK hw (wn rfl) (r_fa fa82_2 hf rfl) rfl
      · intro ρ w a hw hG hf hd K hK
        obtain ⟨o1, o5, o6⟩ := hG
        obtain ⟨_, hf, rfl⟩ := got (hd 21 (by kernel_rfl)) hf
        exact dv_ hK hw (wn rfl) (r_load_agg ty80 hf rfl (o6.cl.lens lProd_2) (cForm.len _)) rfl
      · intro ρ w a hw hG hf hd K hK
        obtain ⟨o1, o5, o6⟩ := hG
        exact dv_ hK hw (wn rfl) (r_fa fa39_1 hf rfl) rfl
      · intro ρ w a hw hG hf hd K hK
        obtain ⟨o1, o5, o6⟩ := hG
        obtain ⟨_, hf, rfl⟩ := got (hd 23 (by kernel_rfl)) hf
        exact dv_ hK hw (wn rfl) (r_load_cell ty2 hf rfl (o1.cl.at_ 1 _ rfl)) rfl
      · intro ρ w a hw hG hf hd K hK
        obtain ⟨o1, o5, o6⟩ := hG
        exact dv_ hK hw (wn rfl) (r_fa fa39_3 hf rfl) rfl
      · intro ρ w a hw hG hf hd K hK
        obtain ⟨o1, o5, o6⟩ := hG
        obtain ⟨_, hf, rfl⟩ := got (hd 25 (by kernel_rfl)) hf
        exact dv_ hK hw (wn rfl) (r_load_cell ty2 hf rfl (o1.cl.at_ 3 _ rfl)) rfl
      · intro ρ w a hw hG hf hd K hK
        obtain ⟨o1, o5, o6⟩ := hG
        obtain ⟨_, hf, rfl⟩ := got (hd 20 (by kernel_rfl)) hf
        obtain ⟨_, hf, rfl⟩ := got (hd 22 (by kernel_rfl)) hf
        obtain ⟨_, hf, rfl⟩ := got (hd 24 (by kernel_rfl)) hf
        obtain ⟨_, hf, rfl⟩ := got (hd 26 (by kernel_rfl)) hf
        refine dc_ hK hw (wn rfl) (r_fn en127 hf rfl) (spec_l01Rank_ok  hx18) fun v w' hΦ => ?_
        obtain ⟨hb, hΦ⟩ := hΦ
        obtain rfl := hΦ
        have hE := Ext.new (ρ := ρ) 9 hb
        exact ⟨_, hw.new 9 hb, hE, rfl⟩
      · intro ρ w a hw hG hf hd K hK
        obtain ⟨o1, o5, o6⟩ := hG
        obtain ⟨_, hf, rfl⟩ := got (hd 9 (by kernel_rfl)) hf
        obtain ⟨_, hf, rfl⟩ := got (hd 18 (by kernel_rfl)) hf
        obtain ⟨_, hf, rfl⟩ := got (hd 27 (by kernel_rfl)) hf
        refine dx_ hK hw (wn rfl) (r_lit (d := fI64) (xs := ([x13, x15, x17] : List Int)) (vs := [vI x13, vI x15, vI x17]) 10 Try.underlying36 el2 (Nat.le_of_ble_eq_true rfl) (Nat.le_of_ble_eq_true rfl) hw hf rfl rfl rfl) fun v10 w' hΦ => ?_
        obtain ⟨ρ, hw, hE, o10⟩ := hΦ
        exact ⟨_, hw, hE, ex_ <| an_ rfl <| o10⟩
      · intro ρ w a hw hG hf hd K hK
        obtain ⟨o1, o5, o6⟩ := hG
        obtain ⟨_, hf, ⟨v10, rfl, o10⟩⟩ := got (hd 28 (by kernel_rfl)) hf
        refine dx_ hK hw (wn rfl) (r_glit 11 Try.underlying24 el36 hw hf rfl o10) fun v11 w' hΦ => ?_
        obtain ⟨ρ, hw, hE, o11⟩ := hΦ
        replace o10 := o10.ext hE
        exact ⟨_, hw, hE, ex_ <| ex_ <| an_ rfl <| an_ o10 <| o11⟩
    intro ρ w a hw hG hf hd
    obtain ⟨o1, o5, o6⟩ := hG
    obtain ⟨_, hf, rfl⟩ := got (hd 0 (by decide)) hf
    obtain ⟨_, hf, ⟨v10, v11, rfl, o10, o11⟩⟩ := got (hd 29 (by decide)) hf
    obtain ⟨hc19, hF⟩ := of_guard hF
    refine sx_ hf (r_gapp' Try.underlying24 el36 hw (by decide) (by decide) (fun _ => by unfold lab; omega) o5 o11 o10 hc19 hf rfl rfl) fun a va20 w hf hΦ => ?_
    obtain ⟨f20, ρ, hw, hT, o5, hff20, hnu20⟩ := hΦ
    replace o1 := o1.tr (hT 1 (by decide) (by decide))
    replace o6 := o6.tr (hT 6 (by decide) (by decide))
    have hn21 : s7.length < (s7 ++ [[x13, x15, x17]]).length := by simp
    refine s_ hf (r_assign hf rfl) fun a hf => ?_
    refine c_nil <| n_block <| n_then <| c_region ?_
    refine s_ hf (r_move hf rfl) fun a hf => ?_
    refine s_ hf (r_add hf rfl rfl) fun a hf => ?_
    refine s_ hf (r_assign hf rfl) fun a hf => ?_
    refine c_nil ?_
    obtain rfl := Option.some.inj hF
    exact Rnd.goes ⟨_, _, _, hw, hf.sub ⟨rfl, rfl, rfl, trivial⟩, o1, o5⟩
  rintro ⟨s5, s6, s7⟩ a w hs ⟨ρ, vv8, f9, hw, hf, o5⟩
  subst hs
  have hF := hG4
  dsimp only at hF
  refine x_block <| n_then <| c_seq <| c_region ?_
  refine s_ hf (r_move hf rfl) fun a hf => ?_
  refine s_ hf (r_assign hf rfl) fun a hf => ?_
  refine s_ hf (r_assign hf rfl) fun a hf => ?_
  refine c_nt <| c_retc ?_
  obtain ⟨hnd, hF⟩ := of_guard hF
  obtain rfl := Option.some.inj hF
  refine c_ret hf (res_tt Try.results81 hf rfl rfl) ?_
  exact ⟨_, rfl, hw.below, ⟨_, rfl, o5.gout hnd⟩⟩
/-! f85 -/
noncomputable def impl_ranks_l1 (a0 : Sch) (s2 : Int) (s3 : List Nat) (s4 : List (List Int)) : Option (LR (Int × (List Nat) × (List (List Int))) (List (List Int))) :=
  if (decide (s2 < (a0.ps.length : Int))) = true then (if 0 ≤ s2 ∧ s2 < (a0.ps.length : Int) then ((impl_matrixOf ((gl zProd a0.ps s2).1) a0.n a0.m).bind fun x10 => (impl_rank a0.p x10).bind fun x14 => (impl_matrixOf ((gl zProd a0.ps s2).2.1) a0.m a0.k).bind fun x16 => (impl_rank a0.p x16).bind fun x20 => (impl_matrixOf ((gl zProd a0.ps s2).2.2) a0.n a0.k).bind fun x22 => (impl_rank a0.p x22).bind fun x26 => if (s3.length + 1) * 24 ≤ 140737488355328 then (some (.next (w64 (s2 + 1), (s3 ++ [s4.length]), (s4 ++ [[x14, x20, x26]])))) else none) else none) else (some (.stop (s2, s3, s4)))
noncomputable def impl_ranks (a0 : Sch) : Option (List (List Int)) :=
  (iter (fun s => impl_ranks_l1 a0 s.1 s.2.1 s.2.2) (0, ([] : List Nat), ([] : List (List Int)))).bind fun o => match o with | .stop (s2, s3, s4) => (if s3.Nodup then some ((gi s3 s4)) else none) | .ret r => some r | .next _ => none
theorem impl_ranks_ok {w0 : World} {a0 : Sch} {va0 : Value} (h0 : Ro (kf cProd) w0 va0 a0.ps) {r : List (List Int)} (hF : impl_ranks a0 = some r) :
    Calls Try.prog 85 [.agg ([vI a0.p, vI a0.n, vI a0.m, vI a0.k, va0]).toArray].toArray w0 fun e w => ∃ v, e = .returned v ∧ Below w0.heap.size w0 w ∧ ∃ u0, u0 = v ∧ GFresh fI64 2 36 w0 w u0 r := by
  refine calls_of (k := 50) Try.func85 rfl rfl (Nat.le_of_ble_eq_true rfl) fun a hf => ?_
  replace hf : Fr 50 a [(0, .agg ([vI a0.p, vI a0.n, vI a0.m, vI a0.k, va0]).toArray)] := hf
  refine c_start fun w ρ hw => ?_
  unfold impl_ranks at hF
  refine c_seq <| c_region ?_
  refine sx_ hf (r_box (cs := [vI a0.p, vI a0.n, vI a0.m, vI a0.k, va0]) 1 hw hf rfl rfl) fun a v w hf hΦ => ?_
  obtain ⟨g1, ρ, rfl, hw, hE, o1⟩ := hΦ
  have o2 : Ow (Kd.slice 2 (kf fI64)) 36 ρ w w0.heap.size 2 (.slice none 0 0) [] := Ow.nil _ _ _ _ _ _
  refine s_ hf (r_assign hf rfl) fun a hf => ?_
  refine c_nt <| c_seq <| c_region ?_
  refine sx_ hf (r_lit_none (d := (Kd.slice 2 (kf fI64))) 3 Try.underlying24 el36 hw) fun a v3 w hf hΦ => ?_
  obtain ⟨ρ, hw, hE, o3⟩ := hΦ
  replace o1 := o1.ext hE
  replace o2 := o2.ext hE
  replace o3 : Gd fI64 2 36 ρ w w0.heap.size 3 v3 (fun _ => (⟨.bool false, rfl⟩ : V1)) ([] : List Nat) ([] : List (List Int)) := Gd.empty o3 rfl (by decide) _
  refine s_ hf (r_assign hf rfl) fun a hf => ?_
  refine c_nt <| c_seq <| c_seq <| c_region ?_
  refine s_ hf (r_fa fa39_4 hf rfl) fun a hf => ?_
  refine s_ hf (r_load_cell ty37 hf rfl (o1.cl.at_ 4 _ rfl)) fun a hf => ?_
  refine s_ hf (r_len Try.underlying37 (h0.now hw) hf rfl) fun a hf => ?_
  refine s_ hf (r_move hf rfl) fun a hf => ?_
  refine c_nt ?_
  obtain ⟨ol1, ho1, hG1⟩ := of_bind hF
  clear hF
  refine c_block (c_loop (id := 0) (fun s => impl_ranks_l1 a0 s.1 s.2.1 s.2.2) (fun (s : Int × (List Nat) × (List (List Int))) a w => match s with | (s2, s3, s4) => ∃ ρ vv5 f6, Wd w0 ρ w ∧ Fr 50 a [(1, .pointer (some ((⟨g1, 0, none⟩ : Addr).add 0))), (3, vv5), (8, va0), (9, vI (a0.ps.length : Int)), (10, vI s2)] ∧ Va ρ w 1 g1 39 ([vI a0.p, vI a0.n, vI a0.m, vI a0.k, va0]) ∧ Gd fI64 2 36 ρ w w0.heap.size 3 vv5 f6 s3 s4) (fun (s : Int × (List Nat) × (List (List Int))) a w => match s with | (s2, s3, s4) => ∃ ρ vv5 f6, Wd w0 ρ w ∧ Fr 50 a [(3, vv5)] ∧ Gd fI64 2 36 ρ w w0.heap.size 3 vv5 f6 s3 s4) ho1 ⟨_, _, _, hw, hf.sub ⟨rfl, rfl, rfl, rfl, rfl, trivial⟩, o1, o3⟩ ?_ ?_)
  · rintro ⟨s2, s3, s4⟩ lr a w ⟨ρ, vv5, f6, hw, hf, o1, o3⟩ hF
    replace hF : impl_ranks_l1 a0 s2 s3 s4 = some lr := hF
    unfold impl_ranks_l1 at hF
    refine c_seq <| c_region ?_
    refine s_ hf (r_lss hf rfl rfl) fun a hf => ?_
    refine c_nt <| c_seq ?_
    rcases of_ite hF with ⟨hb7, hF⟩ | ⟨hb7, hF⟩
    rotate_left
    · refine c_iff hf rfl hb7 <| c_exit <| x_then ?_
      obtain rfl := Option.some.inj hF
      exact Rnd.stops ⟨_, _, _, hw, hf.sub ⟨rfl, trivial⟩, o3⟩
    refine c_ift hf rfl hb7 <| c_skip <| n_then <| c_seq <| c_block <| c_seq <| c_region ?_
    obtain ⟨hc8, hF⟩ := of_guard hF
    obtain ⟨ad9, c9, he9, hl9⟩ := Ro.el cProd h0 zProd hc8.1 hc8.2
    refine s_ hf (r_idx Try.underlying37 sz82 hf rfl ⟨_, he9⟩ rfl hc8.1 hc8.2) fun a hf => ?_
    refine s_ hf (r_load_agg ty82 hf rfl (hl9.below hw.below) (cProd.len _)) fun a hf => ?_
    refine sx_ hf (r_alloc (cs := cProd.enc zProd) 4 ze82 rfl hw) fun a v w hf hΦ => ?_
    obtain ⟨g4, ρ, rfl, hw, hE, o4⟩ := hΦ
    replace o1 := o1.ext hE
    replace o3 := o3.ext hE
    refine sk_ hf (r_store_w (cs' := cProd.enc (gl zProd a0.ps s2)) hw o4 (by decide) ty82 (cProd.len _) (cProd.len _) (cProd.one _) hf rfl rfl rfl) fun a w hf hΦ => ?_
    obtain ⟨hw, hA, o4⟩ := hΦ
    replace o1 := o1.adv hA (by decide)
    replace o3 := o3.adv hA (by decide) (fun _ => by unfold lab; omega)
    refine c_nt ?_
    obtain ⟨x10, hx11, hF⟩ := of_bind hF
    obtain ⟨x14, hx15, hF⟩ := of_bind hF
    obtain ⟨x16, hx17, hF⟩ := of_bind hF
    obtain ⟨x20, hx21, hF⟩ := of_bind hF
    obtain ⟨x22, hx23, hF⟩ := of_bind hF
    obtain ⟨x26, hx27, hF⟩ := of_bind hF
    replace hf : Fr 50 a [(1, .pointer (some ((⟨g1, 0, none⟩ : Addr).add 0))), (3, vv5), (5, .pointer (some ((⟨g4, 0, none⟩ : Addr).add 0))), (8, va0), (9, vI (a0.ps.length : Int)), (10, vI s2)] := hf.sub ⟨rfl, rfl, rfl, rfl, rfl, rfl, trivial⟩
    refine c_drawL (h := 33) mixed (by kernel_rfl) (by kernel_rfl) (fun ρ w => Va ρ w 1 g1 39 ([vI a0.p, vI a0.n, vI a0.m, vI a0.k, va0]) ∧ Gd fI64 2 36 ρ w w0.heap.size 3 vv5 f6 s3 s4 ∧ Va ρ w 4 g4 82 (cProd.enc (gl zProd a0.ps s2))) ?_ [fun ρ w v => vv5 = v, fun ρ w v => .pointer (some ((⟨g1, 0, none⟩ : Addr).add (0 + 0))) = v, fun ρ w v => vI a0.p = v, fun ρ w v => .pointer (some ((⟨g4, 0, none⟩ : Addr).add (0 + 0))) = v, fun ρ w v => .agg (cForm.enc ((gl zProd a0.ps s2).1)).toArray = v, fun ρ w v => .pointer (some ((⟨g1, 0, none⟩ : Addr).add (0 + 1))) = v, fun ρ w v => vI a0.n = v, fun ρ w v => .pointer (some ((⟨g1, 0, none⟩ : Addr).add (0 + 2))) = v, fun ρ w v => vI a0.m = v, fun ρ w v => ∃ u12, u12 = v ∧ O36 ρ w w0 5 u12 x10, fun ρ w v => vI x14 = v, fun ρ w v => .pointer (some ((⟨g1, 0, none⟩ : Addr).add (0 + 0))) = v, fun ρ w v => vI a0.p = v, fun ρ w v => .pointer (some ((⟨g4, 0, none⟩ : Addr).add (0 + 9))) = v, fun ρ w v => .agg (cForm.enc ((gl zProd a0.ps s2).2.1)).toArray = v, fun ρ w v => .pointer (some ((⟨g1, 0, none⟩ : Addr).add (0 + 2))) = v, fun ρ w v => vI a0.m = v, fun ρ w v => .pointer (some ((⟨g1, 0, none⟩ : Addr).add (0 + 3))) = v, fun ρ w v => vI a0.k = v, fun ρ w v => ∃ u18, u18 = v ∧ O36 ρ w w0 7 u18 x16, fun ρ w v => vI x20 = v, fun ρ w v => .pointer (some ((⟨g1, 0, none⟩ : Addr).add (0 + 0))) = v, fun ρ w v => vI a0.p = v, fun ρ w v => .pointer (some ((⟨g4, 0, none⟩ : Addr).add (0 + 18))) = v, fun ρ w v => .agg (cForm.enc ((gl zProd a0.ps s2).2.2)).toArray = v, fun ρ w v => .pointer (some ((⟨g1, 0, none⟩ : Addr).add (0 + 1))) = v, fun ρ w v => vI a0.n = v, fun ρ w v => .pointer (some ((⟨g1, 0, none⟩ : Addr).add (0 + 3))) = v, fun ρ w v => vI a0.k = v, fun ρ w v => ∃ u24, u24 = v ∧ O36 ρ w w0 9 u24 x22, fun ρ w v => vI x26 = v, fun ρ w v => ∃ v11, v11 = v ∧ O2 ρ w w0 11 v11 ([x14, x20, x26]), fun ρ w v => ∃ v11 v12, v12 = v ∧ O2 ρ w w0 11 v11 ([x14, x20, x26]) ∧ Gl 36 ρ w w0.heap.size 12 v12 v11] ?_ hw ⟨o1, o3, o4⟩ hf ?_ ?_
    · intro ρ w ρ' w' hE hG
      obtain ⟨o1, o3, o4⟩ := hG
      exact ⟨o1.ext hE, o3.ext hE, o4.ext hE⟩
    · exact LastsL.cons (fun _ _ _ _ _ _ h => h) <| LastsL.cons (fun _ _ _ _ _ _ h => h) <| LastsL.cons (fun _ _ _ _ _ _ h => h) <| LastsL.cons (fun _ _ _ _ _ _ h => h) <| LastsL.cons (fun _ _ _ _ _ _ h => h) <| LastsL.cons (fun _ _ _ _ _ _ h => h) <| LastsL.cons (fun _ _ _ _ _ _ h => h) <| LastsL.cons (fun _ _ _ _ _ _ h => h) <| LastsL.cons (fun _ _ _ _ _ _ h => h) <| LastsL.cons (fun _ _ _ _ _ hE h => by obtain ⟨u12, h, o5⟩ := h; exact ⟨_, h, o5.ext hE⟩) <| LastsL.cons (fun _ _ _ _ _ _ h => h) <| LastsL.cons (fun _ _ _ _ _ _ h => h) <| LastsL.cons (fun _ _ _ _ _ _ h => h) <| LastsL.cons (fun _ _ _ _ _ _ h => h) <| LastsL.cons (fun _ _ _ _ _ _ h => h) <| LastsL.cons (fun _ _ _ _ _ _ h => h) <| LastsL.cons (fun _ _ _ _ _ _ h => h) <| LastsL.cons (fun _ _ _ _ _ _ h => h) <| LastsL.cons (fun _ _ _ _ _ _ h => h) <| LastsL.cons (fun _ _ _ _ _ hE h => by obtain ⟨u18, h, o7⟩ := h; exact ⟨_, h, o7.ext hE⟩) <| LastsL.cons (fun _ _ _ _ _ _ h => h) <| LastsL.cons (fun _ _ _ _ _ _ h => h) <| LastsL.cons (fun _ _ _ _ _ _ h => h) <| LastsL.cons (fun _ _ _ _ _ _ h => h) <| LastsL.cons (fun _ _ _ _ _ _ h => h) <| LastsL.cons (fun _ _ _ _ _ _ h => h) <| LastsL.cons (fun _ _ _ _ _ _ h => h) <| LastsL.cons (fun _ _ _ _ _ _ h => h) <| LastsL.cons (fun _ _ _ _ _ _ h => h) <| LastsL.cons (fun _ _ _ _ _ hE h => by obtain ⟨u24, h, o9⟩ := h; exact ⟨_, h, o9.ext hE⟩) <| LastsL.cons (fun _ _ _ _ _ _ h => h) <| LastsL.cons (fun _ _ _ _ _ hE h => by obtain ⟨v11, h, o11⟩ := h; exact ⟨_, h, o11.ext hE⟩) <| LastsL.cons (fun _ _ _ _ _ hE h => by obtain ⟨v11, v12, h, o11, o12⟩ := h; exact ⟨_, _, h, o11.ext hE, o12.ext hE⟩) <| LastsL.nil
    · refine StepsB.cons ?_ <| StepsB.cons ?_ <| StepsB.cons ?_ <| StepsB.cons ?_ <| StepsB.cons ?_ <| StepsB.cons ?_ <| StepsB.cons ?_ <| StepsB.cons ?_ <| StepsB.cons ?_ <| StepsB.cons ?_ <| StepsB.cons ?_ <| StepsB.cons ?_ <| StepsB.cons ?_ <| StepsB.cons ?_ <| StepsB.cons ?_ <| StepsB.cons ?_ <| StepsB.cons ?_ <| StepsB.cons ?_ <| StepsB.cons ?_ <| StepsB.cons ?_ <| StepsB.cons ?_ <| StepsB.cons ?_ <| StepsB.cons ?_ <| StepsB.cons ?_ <| StepsB.cons ?_ <| StepsB.cons ?_ <| StepsB.cons ?_ <| StepsB.cons ?_ <| StepsB.cons ?_ <| StepsB.cons ?_ <| StepsB.cons ?_ <| StepsB.cons ?_ <| StepsB.cons ?_ <| StepsB.nil
      · intro ρ w a hw hG hf hd K hK
        obtain ⟨o1, o3, o4⟩ := hG
        exact dv_ hK hw (wn rfl) (r_move hf rfl) rfl
      · intro ρ w a hw hG hf hd K hK
        obtain ⟨o1, o3, o4⟩ := hG
        exact dv_ hK hw (wn rfl) (r_fa fa39_0 hf rfl) rfl
      · intro ρ w a hw hG hf hd K hK
        obtain ⟨o1, o3, o4⟩ := hG
        obtain ⟨_, hf, rfl⟩ := got (hd 1 (by kernel_rfl)) hf
        exact dv_ hK hw (wn rfl) (r_load_cell ty2 hf rfl (o1.cl.at_ 0 _ rfl)) rfl
      · intro ρ w a hw hG hf hd K hK
        obtain ⟨o1, o3, o4⟩ := hG
        exact dv_ hK hw (wn rfl) (r_fa fa82_0 hf rfl) rfl
      · intro ρ w a hw hG hf hd K hK
        obtain ⟨o1, o3, o4⟩ := hG
        obtain ⟨_, hf, rfl⟩ := got (hd 3 (by kernel_rfl)) hf
        exact dv_ hK hw (wn rfl) (r_load_agg ty80 hf rfl (o4.cl.lens lProd_0) (cForm.len _)) rfl
      · intro ρ w a hw hG hf hd K hK
        obtain ⟨o1, o3, o4⟩ := hG
        exact dv_ hK hw (wn rfl) (r_fa fa39_1 hf rfl) rfl
      · intro ρ w a hw hG hf hd K hK
        obtain ⟨o1, o3, o4⟩ := hG
        obtain ⟨_, hf, rfl⟩ := got (hd 5 (by kernel_rfl)) hf
        exact dv_ hK hw (wn rfl) (r_load_cell ty2 hf rfl (o1.cl.at_ 1 _ rfl)) rfl
      · intro ρ w a hw hG hf hd K hK
        obtain ⟨o1, o3, o4⟩ := hG
        exact dv_ hK hw (wn rfl) (r_fa fa39_2 hf rfl) rfl
      · intro ρ w a hw hG hf hd K hK
        obtain ⟨o1, o3, o4⟩ := hG
        obtain ⟨_, hf, rfl⟩ := got (hd 7 (by kernel_rfl)) hf
        exact dv_ hK hw (wn rfl) (r_load_cell ty2 hf rfl (o1.cl.at_ 2 _ rfl)) rfl
      · intro ρ w a hw hG hf hd K hK
        obtain ⟨o1, o3, o4⟩ := hG
        obtain ⟨_, hf, rfl⟩ := got (hd 4 (by kernel_rfl)) hf
        obtain ⟨_, hf, rfl⟩ := got (hd 6 (by kernel_rfl)) hf
        obtain ⟨_, hf, rfl⟩ := got (hd 8 (by kernel_rfl)) hf
        refine dc_ hK hw (wn rfl) (r_fn en131 hf rfl) (impl_matrixOf_ok  hx11) fun v w' hΦ => ?_
        obtain ⟨hb, hΦ⟩ := hΦ
        obtain ⟨u12, rfl, hr13⟩ := hΦ
        have hE := Ext.new (ρ := ρ) 5 hb
        have o5 := Fresh.own (ρ := ρ) (B := w0.heap.size) hr13 hw.below.size 5
        exact ⟨_, hw.new 5 hb, hE, ex_ <| an_ rfl <| o5⟩
      · intro ρ w a hw hG hf hd K hK
        obtain ⟨o1, o3, o4⟩ := hG
        obtain ⟨_, hf, rfl⟩ := got (hd 2 (by kernel_rfl)) hf
        obtain ⟨_, hf, ⟨u12, rfl, o5⟩⟩ := got (hd 9 (by kernel_rfl)) hf
        refine dc_ hK hw (wn rfl) (r_fn en106 hf rfl) (impl_rank_ok o5.ro hx15) fun v w' hΦ => ?_
        obtain ⟨hb, hΦ⟩ := hΦ
        obtain rfl := hΦ
        have hE := Ext.new (ρ := ρ) 6 hb
        exact ⟨_, hw.new 6 hb, hE, rfl⟩
      · intro ρ w a hw hG hf hd K hK
        obtain ⟨o1, o3, o4⟩ := hG
        exact dv_ hK hw (wn rfl) (r_fa fa39_0 hf rfl) rfl
      · intro ρ w a hw hG hf hd K hK
        obtain ⟨o1, o3, o4⟩ := hG
        obtain ⟨_, hf, rfl⟩ := got (hd 11 (by kernel_rfl)) hf
        exact dv_ hK hw (wn rfl) (r_load_cell ty2 hf rfl (o1.cl.at_ 0 _ rfl)) rfl
      · intro ρ w a hw hG hf hd K hK
        obtain ⟨o1, o3, o4⟩ := hG
        exact dv_ hK hw (wn rfl) (r_fa fa82_1 hf rfl) rfl
      · intro ρ w a hw hG hf hd K hK
        obtain ⟨o1, o3, o4⟩ := hG
        obtain ⟨_, hf, rfl⟩ := got (hd 13 (by kernel_rfl)) hf
        exact dv_ hK hw (wn rfl) (r_load_agg ty80 hf rfl (o4.cl.lens lProd_1) (cForm.len _)) rfl
      · intro ρ w a hw hG hf hd K hK
        obtain ⟨o1, o3, o4⟩ := hG
        exact dv_ hK hw (wn rfl) (r_fa fa39_2 hf rfl) rfl
      · intro ρ w a hw hG hf hd K hK
        obtain ⟨o1, o3, o4⟩ := hG
        obtain ⟨_, hf, rfl⟩ := got (hd 15 (by kernel_rfl)) hf
        exact dv_ hK hw (wn rfl) (r_load_cell ty2 hf rfl (o1.cl.at_ 2 _ rfl)) rfl
      · intro ρ w a hw hG hf hd K hK
        obtain ⟨o1, o3, o4⟩ := hG
        exact dv_ hK hw (wn rfl) (r_fa fa39_3 hf rfl) rfl
      · intro ρ w a hw hG hf hd K hK
        obtain ⟨o1, o3, o4⟩ := hG
        obtain ⟨_, hf, rfl⟩ := got (hd 17 (by kernel_rfl)) hf
        exact dv_ hK hw (wn rfl) (r_load_cell ty2 hf rfl (o1.cl.at_ 3 _ rfl)) rfl
      · intro ρ w a hw hG hf hd K hK
        obtain ⟨o1, o3, o4⟩ := hG
        obtain ⟨_, hf, rfl⟩ := got (hd 14 (by kernel_rfl)) hf
        obtain ⟨_, hf, rfl⟩ := got (hd 16 (by kernel_rfl)) hf
        obtain ⟨_, hf, rfl⟩ := got (hd 18 (by kernel_rfl)) hf
        refine dc_ hK hw (wn rfl) (r_fn en131 hf rfl) (impl_matrixOf_ok  hx17) fun v w' hΦ => ?_
        obtain ⟨hb, hΦ⟩ := hΦ
        obtain ⟨u18, rfl, hr19⟩ := hΦ
        have hE := Ext.new (ρ := ρ) 7 hb
        have o7 := Fresh.own (ρ := ρ) (B := w0.heap.size) hr19 hw.below.size 7
        exact ⟨_, hw.new 7 hb, hE, ex_ <| an_ rfl <| o7⟩
      · intro ρ w a hw hG hf hd K hK
        obtain ⟨o1, o3, o4⟩ := hG
        obtain ⟨_, hf, rfl⟩ := got (hd 12 (by kernel_rfl)) hf
        obtain ⟨_, hf, ⟨u18, rfl, o7⟩⟩ := got (hd 19 (by kernel_rfl)) hf
        refine dc_ hK hw (wn rfl) (r_fn en106 hf rfl) (impl_rank_ok o7.ro hx21) fun v w' hΦ => ?_
        obtain ⟨hb, hΦ⟩ := hΦ
        obtain rfl := hΦ
        have hE := Ext.new (ρ := ρ) 8 hb
        exact ⟨_, hw.new 8 hb, hE, rfl⟩
      · intro ρ w a hw hG hf hd K hK
        obtain ⟨o1, o3, o4⟩ := hG
        exact dv_ hK hw (wn rfl) (r_fa fa39_0 hf rfl) rfl
      · intro ρ w a hw hG hf hd K hK
        obtain ⟨o1, o3, o4⟩ := hG
        obtain ⟨_, hf, rfl⟩ := got (hd 21 (by kernel_rfl)) hf
        exact dv_ hK hw (wn rfl) (r_load_cell ty2 hf rfl (o1.cl.at_ 0 _ rfl)) rfl
      · intro ρ w a hw hG hf hd K hK
        obtain ⟨o1, o3, o4⟩ := hG
        exact dv_ hK hw (wn rfl) (r_fa fa82_2 hf rfl) rfl
      · intro ρ w a hw hG hf hd K hK
        obtain ⟨o1, o3, o4⟩ := hG
        obtain ⟨_, hf, rfl⟩ := got (hd 23 (by kernel_rfl)) hf
        exact dv_ hK hw (wn rfl) (r_load_agg ty80 hf rfl (o4.cl.lens lProd_2) (cForm.len _)) rfl
      · intro ρ w a hw hG hf hd K hK
        obtain ⟨o1, o3, o4⟩ := hG
        exact dv_ hK hw (wn rfl) (r_fa fa39_1 hf rfl) rfl
      · intro ρ w a hw hG hf hd K hK
        obtain ⟨o1, o3, o4⟩ := hG
        obtain ⟨_, hf, rfl⟩ := got (hd 25 (by kernel_rfl)) hf
        exact dv_ hK hw (wn rfl) (r_load_cell ty2 hf rfl (o1.cl.at_ 1 _ rfl)) rfl
      · intro ρ w a hw hG hf hd K hK
        obtain ⟨o1, o3, o4⟩ := hG
        exact dv_ hK hw (wn rfl) (r_fa fa39_3 hf rfl) rfl
      · intro ρ w a hw hG hf hd K hK
        obtain ⟨o1, o3, o4⟩ := hG
        obtain ⟨_, hf, rfl⟩ := got (hd 27 (by kernel_rfl)) hf
        exact dv_ hK hw (wn rfl) (r_load_cell ty2 hf rfl (o1.cl.at_ 3 _ rfl)) rfl
      · intro ρ w a hw hG hf hd K hK
        obtain ⟨o1, o3, o4⟩ := hG
        obtain ⟨_, hf, rfl⟩ := got (hd 24 (by kernel_rfl)) hf
        obtain ⟨_, hf, rfl⟩ := got (hd 26 (by kernel_rfl)) hf
        obtain ⟨_, hf, rfl⟩ := got (hd 28 (by kernel_rfl)) hf
        refine dc_ hK hw (wn rfl) (r_fn en131 hf rfl) (impl_matrixOf_ok  hx23) fun v w' hΦ => ?_
        obtain ⟨hb, hΦ⟩ := hΦ
        obtain ⟨u24, rfl, hr25⟩ := hΦ
        have hE := Ext.new (ρ := ρ) 9 hb
        have o9 := Fresh.own (ρ := ρ) (B := w0.heap.size) hr25 hw.below.size 9
        exact ⟨_, hw.new 9 hb, hE, ex_ <| an_ rfl <| o9⟩
      · intro ρ w a hw hG hf hd K hK
        obtain ⟨o1, o3, o4⟩ := hG
        obtain ⟨_, hf, rfl⟩ := got (hd 22 (by kernel_rfl)) hf
        obtain ⟨_, hf, ⟨u24, rfl, o9⟩⟩ := got (hd 29 (by kernel_rfl)) hf
        refine dc_ hK hw (wn rfl) (r_fn en106 hf rfl) (impl_rank_ok o9.ro hx27) fun v w' hΦ => ?_
        obtain ⟨hb, hΦ⟩ := hΦ
        obtain rfl := hΦ
        have hE := Ext.new (ρ := ρ) 10 hb
        exact ⟨_, hw.new 10 hb, hE, rfl⟩
      · intro ρ w a hw hG hf hd K hK
        obtain ⟨o1, o3, o4⟩ := hG
        obtain ⟨_, hf, rfl⟩ := got (hd 10 (by kernel_rfl)) hf
        obtain ⟨_, hf, rfl⟩ := got (hd 20 (by kernel_rfl)) hf
        obtain ⟨_, hf, rfl⟩ := got (hd 30 (by kernel_rfl)) hf
        refine dx_ hK hw (wn rfl) (r_lit (d := fI64) (xs := ([x14, x20, x26] : List Int)) (vs := [vI x14, vI x20, vI x26]) 11 Try.underlying36 el2 (Nat.le_of_ble_eq_true rfl) (Nat.le_of_ble_eq_true rfl) hw hf rfl rfl rfl) fun v11 w' hΦ => ?_
        obtain ⟨ρ, hw, hE, o11⟩ := hΦ
        exact ⟨_, hw, hE, ex_ <| an_ rfl <| o11⟩
      · intro ρ w a hw hG hf hd K hK
        obtain ⟨o1, o3, o4⟩ := hG
        obtain ⟨_, hf, ⟨v11, rfl, o11⟩⟩ := got (hd 31 (by kernel_rfl)) hf
        refine dx_ hK hw (wn rfl) (r_glit 12 Try.underlying24 el36 hw hf rfl o11) fun v12 w' hΦ => ?_
        obtain ⟨ρ, hw, hE, o12⟩ := hΦ
        replace o11 := o11.ext hE
        exact ⟨_, hw, hE, ex_ <| ex_ <| an_ rfl <| an_ o11 <| o12⟩
    intro ρ w a hw hG hf hd
    obtain ⟨o1, o3, o4⟩ := hG
    obtain ⟨_, hf, rfl⟩ := got (hd 0 (by decide)) hf
    obtain ⟨_, hf, ⟨v11, v12, rfl, o11, o12⟩⟩ := got (hd 32 (by decide)) hf
    obtain ⟨hc28, hF⟩ := of_guard hF
    refine sx_ hf (r_gapp' Try.underlying24 el36 hw (by decide) (by decide) (fun _ => by unfold lab; omega) o3 o12 o11 hc28 hf rfl rfl) fun a va29 w hf hΦ => ?_
    obtain ⟨f29, ρ, hw, hT, o3, hff29, hnu29⟩ := hΦ
    replace o1 := o1.tr (hT 1 (by decide) (by decide))
    replace o4 := o4.tr (hT 4 (by decide) (by decide))
    have hn30 : s4.length < (s4 ++ [[x14, x20, x26]]).length := by simp
    refine s_ hf (r_assign hf rfl) fun a hf => ?_
    refine c_nil <| n_block <| n_then <| c_region ?_
    refine s_ hf (r_add hf rfl rfl) fun a hf => ?_
    refine s_ hf (r_move hf rfl) fun a hf => ?_
    refine c_nil ?_
    obtain rfl := Option.some.inj hF
    exact Rnd.goes ⟨_, _, _, hw, hf.sub ⟨rfl, rfl, rfl, rfl, rfl, trivial⟩, o1, o3⟩
  rintro ⟨s2, s3, s4⟩ a w hs ⟨ρ, vv5, f6, hw, hf, o3⟩
  subst hs
  have hF := hG1
  dsimp only at hF
  refine x_block <| n_then <| c_seq <| c_region ?_
  refine s_ hf (r_move hf rfl) fun a hf => ?_
  refine s_ hf (r_assign hf rfl) fun a hf => ?_
  refine c_nt <| c_retc ?_
  obtain ⟨hnd, hF⟩ := of_guard hF
  obtain rfl := Option.some.inj hF
  refine c_ret hf (res_tmp Try.results85 hf rfl) ?_
  exact ⟨_, rfl, hw.below, ⟨_, rfl, o3.gout hnd⟩⟩
/-! f150snil -/
noncomputable def slices_Grow_150_fnil (a1 : Int) : Option (List Int) :=
  if (decide (a1 < 0)) = true then (none) else (if (decide (0 < (w64 (a1 - (w64 (0 - (([] : List Int).length : Int))))))) = true then (if 0 < w64 (a1 - (w64 (0 - (([] : List Int).length : Int)))) ∧ (w64 (a1 - (w64 (0 - (([] : List Int).length : Int))))).toNat * 8 ≤ 140737488355328 then (if (0 : Int) ≤ (([] : List Int).length : Int) ∧ (([] : List Int).length : Int) ≤ ((List.replicate (w64 (a1 - (w64 (0 - (([] : List Int).length : Int))))).toNat (0 : Int)).length : Int) then (some (((List.replicate (w64 (a1 - (w64 (0 - (([] : List Int).length : Int))))).toNat (0 : Int)).take (([] : List Int).length : Int).toNat))) else none) else none) else (some (([] : List Int))))
theorem slices_Grow_150_fnil_ok {w0 : World} {a1 : Int}   {r : List Int} (hF : slices_Grow_150_fnil a1 = some r) :
    Calls Try.prog 150 [.slice none 0 0, vI a1].toArray w0 fun e w => ∃ v, e = .returned v ∧ Below w0.heap.size w0 w ∧ ∃ u0, u0 = v ∧ Fresh (kf fI64) 2 w0 w u0 r := by
  refine calls_of (k := 27) Try.func150 rfl rfl (Nat.le_of_ble_eq_true rfl) fun a hf => ?_
  replace hf : Fr 27 a [(0, (.slice none 0 0)), (1, vI a1)] := hf
  refine c_start fun w ρ hw => ?_
  unfold slices_Grow_150_fnil at hF
  have o1 : O2 ρ w w0 1 (.slice none 0 0) [] := Ow.nil _ _ _ _ _ _
  refine c_seq <| c_region ?_
  have o2 : Ow (kf fI64) 2 ρ w w0.heap.size 2 (.slice none 0 0) [] := Ow.nil _ _ _ _ _ _
  refine s_ hf (r_assign hf rfl) fun a hf => ?_
  refine c_nt <| c_seq <| c_seq <| c_region ?_
  refine s_ hf (r_move hf rfl) fun a hf => ?_
  refine s_ hf (r_lss hf rfl rfl) fun a hf => ?_
  refine c_nt ?_
  rcases of_ite hF with ⟨hb1, hF⟩ | ⟨hb1, hF⟩
  · refine c_ift hf rfl hb1 <| c_region ?_
    cases hF
  refine c_iff hf rfl hb1 <| c_skip <| n_then <| c_seq <| c_seq <| c_region ?_
  refine s_ hf (r_move hf rfl) fun a hf => ?_
  refine s_ hf (r_move hf rfl) fun a hf => ?_
  refine s_ hf (r_cap0 Try.underlying36 hf rfl) fun a hf => ?_
  refine s_ hf (r_move hf rfl) fun a hf => ?_
  refine s_ hf (r_len Try.underlying36 o1.ro hf rfl) fun a hf => ?_
  refine s_ hf (r_sub hf rfl rfl) fun a hf => ?_
  refine s_ hf (r_sub hf rfl rfl) fun a hf => ?_
  refine s_ hf (r_assign hf rfl) fun a hf => ?_
  refine c_nt <| c_seq <| c_region ?_
  refine s_ hf (r_move hf rfl) fun a hf => ?_
  refine s_ hf (r_gtr hf rfl rfl) fun a hf => ?_
  refine c_nt ?_
  rcases of_ite hF with ⟨hb2, hF⟩ | ⟨hb2, hF⟩
  rotate_left
  · refine c_iff hf rfl hb2 <| c_skip <| n_then <| c_seq <| c_region ?_
    refine s_ hf (r_move hf rfl) fun a hf => ?_
    refine s_ hf (r_assign hf rfl) fun a hf => ?_
    refine c_nt <| c_retc ?_
    obtain rfl := Option.some.inj hF
    refine c_ret hf (res_tmp Try.results150 hf rfl) ?_
    exact ⟨_, rfl, hw.below, ⟨_, rfl, o1.out⟩⟩
  refine c_ift hf rfl hb2 <| c_region ?_
  refine s_ hf (r_move hf rfl) fun a hf => ?_
  refine s_ hf (r_move hf rfl) fun a hf => ?_
  refine s_ hf (r_cap0 Try.underlying36 hf rfl) fun a hf => ?_
  have o3 : Ow (kf fI64) 2 ρ w w0.heap.size 3 (.slice none 0 0) [] := Ow.nil _ _ _ _ _ _
  refine s_ hf (r_cut_nil Try.underlying36 sz2 hf rfl rfl) fun a hf => ?_
  refine s_ hf (r_move hf rfl) fun a hf => ?_
  obtain ⟨hc3, hF⟩ := of_guard hF
  refine sx_ hf (r_app_mk (d := fI64) (z0 := 0) 4 Try.underlying36 Try.underlying3 el2 rfl hw hf rfl rfl hc3.1 hc3.2) fun a v4 w hf hΦ => ?_
  obtain ⟨ρ, hw, hE, o4⟩ := hΦ
  replace o1 := o1.ext hE
  replace o2 := o2.ext hE
  replace o3 := o3.ext hE
  refine s_ hf (r_move hf rfl) fun a hf => ?_
  refine s_ hf (r_len Try.underlying36 o1.ro hf rfl) fun a hf => ?_
  obtain ⟨hc4, hF⟩ := of_guard hF
  refine s_ hf (r_cut_v (lo := 0) (hi := (([] : List Int).length : Int)) Try.underlying36 sz2 rfl o4.ro hf rfl (.inl ⟨rfl, rfl⟩) (.inr ⟨_, rfl, rfl⟩) (Int.le_refl 0) hc4.1 hc4.2) fun a hf => ?_
  replace o4 : Ow (kf fI64) 2 ρ w w0.heap.size 4 (cutV v4 0 (([] : List Int).length : Int).toNat 1) ((List.replicate (w64 (a1 - (w64 (0 - (([] : List Int).length : Int))))).toNat (0 : Int)).take (([] : List Int).length : Int).toNat) := Ow.take o4 (Int.le_trans (Int.le_refl 0) hc4.1) hc4.2 1
  refine s_ hf (r_assign hf rfl) fun a hf => ?_
  refine c_nt <| c_seq <| c_region ?_
  refine s_ hf (r_move hf rfl) fun a hf => ?_
  refine s_ hf (r_assign hf rfl) fun a hf => ?_
  refine c_nt <| c_retc ?_
  obtain rfl := Option.some.inj hF
  refine c_ret hf (res_tmp Try.results150 hf rfl) ?_
  exact ⟨_, rfl, hw.below, ⟨_, rfl, o4.out⟩⟩
/-! f107 -/
noncomputable def slices_Concat_107_l1 (a0 : List (List Int)) (s2 : Int) (s3 : Int) : Option (LR (Int × Int) (List Int)) :=
  if (decide (s3 < (a0.length : Int))) = true then (if 0 ≤ s3 ∧ s3 < (a0.length : Int) then (if (decide ((w64 (s2 + ((gl [] a0 s3).length : Int))) < 0)) = true then (none) else (some (.next (w64 (s2 + ((gl [] a0 s3).length : Int)), w64 (s3 + 1))))) else none) else (some (.stop (s2, s3)))
noncomputable def slices_Concat_107_l12 (a0 : List (List Int)) (s13 : Int) (s14 : List Int) : Option (LR (Int × (List Int)) (List Int)) :=
  if (decide (s13 < (a0.length : Int))) = true then (if 0 ≤ s13 ∧ s13 < (a0.length : Int) then (if (s14.length + (gl [] a0 s13).length) * 8 ≤ 140737488355328 then (some (.next (w64 (s13 + 1), (s14 ++ gl [] a0 s13)))) else none) else none) else (some (.stop (s13, s14)))
noncomputable def slices_Concat_107 (a0 : List (List Int)) : Option (List Int) :=
  (iter (fun s => slices_Concat_107_l1 a0 s.1 s.2) (0, 0)).bind fun o => match o with | .stop (s2, s3) => ((slices_Grow_150_fnil s2).bind fun x8 => (iter (fun s => slices_Concat_107_l12 a0 s.1 s.2) (0, x8)).bind fun o => match o with | .stop (s13, s14) => (some (s14)) | .ret r => some r | .next _ => none) | .ret r => some r | .next _ => none
theorem slices_Concat_107_ok {w0 : World} {a0 : List (List Int)} {va0 : Value} (h0 : Ro (Kd.slice 2 (kf fI64)) w0 va0 a0) {r : List Int} (hF : slices_Concat_107 a0 = some r) :
    Calls Try.prog 107 [va0].toArray w0 fun e w => ∃ v, e = .returned v ∧ Below w0.heap.size w0 w ∧ ∃ u0, u0 = v ∧ Fresh (kf fI64) 2 w0 w u0 r := by
  refine calls_of (k := 36) Try.func107 rfl rfl (Nat.le_of_ble_eq_true rfl) fun a hf => ?_
  replace hf : Fr 36 a [(0, va0)] := hf
  refine c_start fun w ρ hw => ?_
  unfold slices_Concat_107 at hF
  refine c_seq <| c_region ?_
  have o1 : Ow (kf fI64) 2 ρ w w0.heap.size 1 (.slice none 0 0) [] := Ow.nil _ _ _ _ _ _
  refine s_ hf (r_assign hf rfl) fun a hf => ?_
  refine c_nt <| c_seq <| c_region ?_
  refine s_ hf (r_assign hf rfl) fun a hf => ?_
  refine c_nt <| c_seq <| c_seq <| c_region ?_
  refine s_ hf (r_move hf rfl) fun a hf => ?_
  refine s_ hf (r_len Try.underlying24 (h0.now hw) hf rfl) fun a hf => ?_
  refine s_ hf (r_move hf rfl) fun a hf => ?_
  refine c_nt ?_
  obtain ⟨ol1, ho1, hG1⟩ := of_bind hF
  clear hF
  refine c_block (c_loop (id := 0) (fun s => slices_Concat_107_l1 a0 s.1 s.2) (fun (s : Int × Int) a w => match s with | (s2, s3) => ∃ ρ, Wd w0 ρ w ∧ Fr 36 a [(0, va0), (3, vI s2), (9, va0), (10, vI (a0.length : Int)), (11, vI s3)]) (fun (s : Int × Int) a w => match s with | (s2, s3) => ∃ ρ, Wd w0 ρ w ∧ Fr 36 a [(0, va0), (3, vI s2)]) ho1 ⟨_, hw, hf.sub ⟨rfl, rfl, rfl, rfl, rfl, trivial⟩⟩ ?_ ?_)
  · rintro ⟨s2, s3⟩ lr a w ⟨ρ, hw, hf⟩ hF
    replace hF : slices_Concat_107_l1 a0 s2 s3 = some lr := hF
    unfold slices_Concat_107_l1 at hF
    refine c_seq <| c_region ?_
    refine s_ hf (r_lss hf rfl rfl) fun a hf => ?_
    refine c_nt <| c_seq ?_
    rcases of_ite hF with ⟨hb4, hF⟩ | ⟨hb4, hF⟩
    rotate_left
    · refine c_iff hf rfl hb4 <| c_exit <| x_then ?_
      obtain rfl := Option.some.inj hF
      exact Rnd.stops ⟨_, hw, hf.sub ⟨rfl, rfl, trivial⟩⟩
    refine c_ift hf rfl hb4 <| c_skip <| n_then <| c_seq <| c_block <| c_seq <| c_region ?_
    obtain ⟨hc5, hF⟩ := of_guard hF
    obtain ⟨ad6, c6, u6, he6, hl6, ho6⟩ := Ro.el_row h0 hc5.1 hc5.2
    refine s_ hf (r_idx Try.underlying24 sz36 hf rfl ⟨_, he6⟩ rfl hc5.1 hc5.2) fun a hf => ?_
    refine s_ hf (r_load_cell ty36 hf rfl (hl6.below hw.below)) fun a hf => ?_
    refine s_ hf (r_assign hf rfl) fun a hf => ?_
    refine c_nt <| c_seq <| c_region ?_
    refine s_ hf (r_move hf rfl) fun a hf => ?_
    refine s_ hf (r_move hf rfl) fun a hf => ?_
    refine s_ hf (r_len Try.underlying36 (ho6.now hw) hf rfl) fun a hf => ?_
    refine s_ hf (r_add hf rfl rfl) fun a hf => ?_
    refine s_ hf (r_assign hf rfl) fun a hf => ?_
    refine c_nt <| c_seq <| c_region ?_
    refine s_ hf (r_move hf rfl) fun a hf => ?_
    refine s_ hf (r_lss hf rfl rfl) fun a hf => ?_
    refine c_nt ?_
    rcases of_ite hF with ⟨hb7, hF⟩ | ⟨hb7, hF⟩
    · refine c_ift hf rfl hb7 <| c_region ?_
      cases hF
    refine c_iff hf rfl hb7 <| c_skip <| n_block <| n_then <| c_region ?_
    refine s_ hf (r_add hf rfl rfl) fun a hf => ?_
    refine s_ hf (r_move hf rfl) fun a hf => ?_
    refine c_nil ?_
    obtain rfl := Option.some.inj hF
    exact Rnd.goes ⟨_, hw, hf.sub ⟨rfl, rfl, rfl, rfl, rfl, trivial⟩⟩
  rintro ⟨s2, s3⟩ a w hs ⟨ρ, hw, hf⟩
  subst hs
  have hF := hG1
  dsimp only at hF
  refine x_block <| n_then <| c_seq <| c_region ?_
  refine s_ hf (r_move hf rfl) fun a hf => ?_
  obtain ⟨x8, hx9, hF⟩ := of_bind hF
  refine st_fn 2 hw hf rfl rfl (by decide) (r_fn en150 hf rfl) (slices_Grow_150_fnil_ok  hx9) fun a v w ρ hf hw hE hN hΦ => ?_
  obtain ⟨u10, rfl, hr11⟩ := hΦ
  have o2 := hN hr11
  refine s_ hf (r_assign hf rfl) fun a hf => ?_
  refine c_nt <| c_seq <| c_seq <| c_region ?_
  refine s_ hf (r_move hf rfl) fun a hf => ?_
  refine s_ hf (r_len Try.underlying24 (h0.now hw) hf rfl) fun a hf => ?_
  refine s_ hf (r_move hf rfl) fun a hf => ?_
  refine c_nt ?_
  obtain ⟨ol12, ho12, hG12⟩ := of_bind hF
  clear hF
  refine c_block (c_loop (id := 2) (fun s => slices_Concat_107_l12 a0 s.1 s.2) (fun (s : Int × (List Int)) a w => match s with | (s13, s14) => ∃ ρ vv15, Wd w0 ρ w ∧ Fr 36 a [(6, vv15), (25, va0), (26, vI (a0.length : Int)), (27, vI s13)] ∧ O2 ρ w w0 2 vv15 s14) (fun (s : Int × (List Int)) a w => match s with | (s13, s14) => ∃ ρ vv15, Wd w0 ρ w ∧ Fr 36 a [(6, vv15)] ∧ O2 ρ w w0 2 vv15 s14) ho12 ⟨_, _, hw, hf.sub ⟨rfl, rfl, rfl, rfl, trivial⟩, o2⟩ ?_ ?_)
  · rintro ⟨s13, s14⟩ lr a w ⟨ρ, vv15, hw, hf, o2⟩ hF
    replace hF : slices_Concat_107_l12 a0 s13 s14 = some lr := hF
    unfold slices_Concat_107_l12 at hF
    refine c_seq <| c_region ?_
    refine s_ hf (r_lss hf rfl rfl) fun a hf => ?_
    refine c_nt <| c_seq ?_
    rcases of_ite hF with ⟨hb16, hF⟩ | ⟨hb16, hF⟩
    rotate_left
    · refine c_iff hf rfl hb16 <| c_exit <| x_then ?_
      obtain rfl := Option.some.inj hF
      exact Rnd.stops ⟨_, _, hw, hf.sub ⟨rfl, trivial⟩, o2⟩
    refine c_ift hf rfl hb16 <| c_skip <| n_then <| c_seq <| c_block <| c_seq <| c_region ?_
    obtain ⟨hc17, hF⟩ := of_guard hF
    obtain ⟨ad18, c18, u18, he18, hl18, ho18⟩ := Ro.el_row h0 hc17.1 hc17.2
    refine s_ hf (r_idx Try.underlying24 sz36 hf rfl ⟨_, he18⟩ rfl hc17.1 hc17.2) fun a hf => ?_
    refine s_ hf (r_load_cell ty36 hf rfl (hl18.below hw.below)) fun a hf => ?_
    refine s_ hf (r_assign hf rfl) fun a hf => ?_
    refine c_nt <| c_region ?_
    refine s_ hf (r_move hf rfl) fun a hf => ?_
    refine s_ hf (r_move hf rfl) fun a hf => ?_
    obtain ⟨hc19, hF⟩ := of_guard hF
    refine sx_ hf (r_append Try.underlying36 el2 hw (by decide) o2 (ho18.now hw) hc19 hf rfl rfl) fun a va20 w hf hΦ => ?_
    obtain ⟨ρ, hw, hA, o2⟩ := hΦ
    refine s_ hf (r_assign hf rfl) fun a hf => ?_
    refine c_nil <| n_block <| n_then <| c_region ?_
    refine s_ hf (r_add hf rfl rfl) fun a hf => ?_
    refine s_ hf (r_move hf rfl) fun a hf => ?_
    refine c_nil ?_
    obtain rfl := Option.some.inj hF
    exact Rnd.goes ⟨_, _, hw, hf.sub ⟨rfl, rfl, rfl, rfl, trivial⟩, o2⟩
  rintro ⟨s13, s14⟩ a w hs ⟨ρ, vv15, hw, hf, o2⟩
  subst hs
  have hF := hG12
  dsimp only at hF
  refine x_block <| n_then <| c_seq <| c_region ?_
  refine s_ hf (r_move hf rfl) fun a hf => ?_
  refine s_ hf (r_assign hf rfl) fun a hf => ?_
  refine c_nt <| c_retc ?_
  obtain rfl := Option.some.inj hF
  refine c_ret hf (res_tmp Try.results107 hf rfl) ?_
  exact ⟨_, rfl, hw.below, ⟨_, rfl, o2.out⟩⟩
/-! f109 -/
noncomputable def impl_inverted_1 (a0 : List Int) (c1 : Int) : Option Bool :=
  if 0 ≤ c1 ∧ c1 < (a0.length : Int) then (some (decide ((gl 0 a0 c1) ≠ 0))) else none
theorem impl_inverted_1_ok {w0 : World} {a0 : List Int} {c1 : Int} {va0 : Value} {gc1 : Nat} (h0 : Ro (kf fI64) w0 va0 a0) (hc1 : Cl w0 ⟨gc1, 0, none⟩ 0 [vI c1]) {r : Bool} (hF : impl_inverted_1 a0 c1 = some r) :
    Calls Try.prog 109 [va0, .pointer (some ((⟨gc1, 0, none⟩ : Addr).add 0))].toArray w0 fun e w => ∃ v, e = .returned v ∧ Below w0.heap.size w0 w ∧ .bool r = v := by
  refine calls_of (k := 9) Try.func109 rfl rfl (Nat.le_of_ble_eq_true rfl) fun a hf => ?_
  replace hf : Fr 9 a [(0, va0), (1, .pointer (some ((⟨gc1, 0, none⟩ : Addr).add 0)))] := hf
  refine c_start fun w ρ hw => ?_
  unfold impl_inverted_1 at hF
  refine c_seq <| c_region ?_
  refine s_ hf (r_assign hf rfl) fun a hf => ?_
  refine c_nt <| c_seq <| c_region ?_
  refine s_ hf (r_move hf rfl) fun a hf => ?_
  refine s_ hf (r_load_cell ty3 hf rfl (hc1.below hw.below)) fun a hf => ?_
  obtain ⟨hc1, hF⟩ := of_guard hF
  obtain ⟨ad2, c2, he2, hl2⟩ := Ro.el fI64 h0 0 hc1.1 hc1.2
  refine s_ hf (r_idx Try.underlying36 sz2 hf rfl ⟨_, he2⟩ rfl hc1.1 hc1.2) fun a hf => ?_
  refine s_ hf (r_load_cell ty2 hf rfl (hl2.below hw.below)) fun a hf => ?_
  refine s_ hf (r_neq hf rfl rfl) fun a hf => ?_
  refine s_ hf (r_assign hf rfl) fun a hf => ?_
  refine c_nt <| c_retc ?_
  obtain rfl := Option.some.inj hF
  refine c_ret hf (res_tmp Try.results109 hf rfl) ?_
  exact ⟨_, rfl, hw.below, rfl⟩
/-! f108s109 -/
noncomputable def slices_IndexFunc_108_f109_l1 (a0 : List (List Int)) (c1_0 : Int) (s2 : Int) : Option (LR Int Int) :=
  if (decide (s2 < (a0.length : Int))) = true then (if 0 ≤ s2 ∧ s2 < (a0.length : Int) then ((impl_inverted_1 (gl [] a0 s2) c1_0).bind fun x6 => if x6 = true then (some (.ret s2)) else (some (.next (w64 (s2 + 1))))) else none) else (some (.stop s2))
noncomputable def slices_IndexFunc_108_f109 (a0 : List (List Int)) (c1_0 : Int) : Option Int :=
  (iter (fun s => slices_IndexFunc_108_f109_l1 a0 c1_0 s) 0).bind fun o => match o with | .stop s2 => (some ((-1))) | .ret r => some r | .next _ => none
theorem slices_IndexFunc_108_f109_ok {w0 : World} {a0 : List (List Int)} {c1_0 : Int} {va0 : Value} {gc1_0 : Nat} (h0 : Ro (Kd.slice 2 (kf fI64)) w0 va0 a0) (hc1_0 : Cl w0 ⟨gc1_0, 0, none⟩ 0 [vI c1_0]) {r : Int} (hF : slices_IndexFunc_108_f109 a0 c1_0 = some r) :
    Calls Try.prog 108 [va0, .func (.func 109) #[] #[.pointer (some ((⟨gc1_0, 0, none⟩ : Addr).add 0))]].toArray w0 fun e w => ∃ v, e = .returned v ∧ Below w0.heap.size w0 w ∧ .int .i64 r = v := by
  refine calls_of (k := 19) Try.func108 rfl rfl (Nat.le_of_ble_eq_true rfl) fun a hf => ?_
  replace hf : Fr 19 a [(0, va0), (1, .func (.func 109) #[] #[.pointer (some ((⟨gc1_0, 0, none⟩ : Addr).add 0))])] := hf
  refine c_start fun w ρ hw => ?_
  unfold slices_IndexFunc_108_f109 at hF
  refine c_seq <| c_region ?_
  refine s_ hf (r_assign hf rfl) fun a hf => ?_
  refine c_nt <| c_seq <| c_seq <| c_region ?_
  refine s_ hf (r_move hf rfl) fun a hf => ?_
  refine s_ hf (r_len Try.underlying24 (h0.now hw) hf rfl) fun a hf => ?_
  refine s_ hf (r_move hf rfl) fun a hf => ?_
  refine c_nt ?_
  obtain ⟨ol1, ho1, hG1⟩ := of_bind hF
  clear hF
  refine c_block (c_loop (id := 0) (fun s => slices_IndexFunc_108_f109_l1 a0 c1_0 s) (fun (s2 : Int) a w => ∃ ρ, Wd w0 ρ w ∧ Fr 19 a [(0, va0), (1, .func (.func 109) #[] #[.pointer (some ((⟨gc1_0, 0, none⟩ : Addr).add 0))]), (7, vI (a0.length : Int)), (8, vI s2)]) (fun (s2 : Int) a w => ∃ ρ, Wd w0 ρ w ∧ Fr 19 a []) ho1 ⟨_, hw, hf.sub ⟨rfl, rfl, rfl, rfl, trivial⟩⟩ ?_ ?_)
  · rintro s2 lr a w ⟨ρ, hw, hf⟩ hF
    replace hF : slices_IndexFunc_108_f109_l1 a0 c1_0 s2 = some lr := hF
    unfold slices_IndexFunc_108_f109_l1 at hF
    refine c_seq <| c_region ?_
    refine s_ hf (r_lss hf rfl rfl) fun a hf => ?_
    refine c_nt <| c_seq ?_
    rcases of_ite hF with ⟨hb3, hF⟩ | ⟨hb3, hF⟩
    rotate_left
    · refine c_iff hf rfl hb3 <| c_exit <| x_then ?_
      obtain rfl := Option.some.inj hF
      exact Rnd.stops ⟨_, hw, hf.sub trivial⟩
    refine c_ift hf rfl hb3 <| c_skip <| n_then <| c_seq <| c_block <| c_seq <| c_region ?_
    refine s_ hf (r_move hf rfl) fun a hf => ?_
    refine s_ hf (r_assign hf rfl) fun a hf => ?_
    refine c_nt <| c_seq <| c_region ?_
    refine s_ hf (r_move hf rfl) fun a hf => ?_
    refine s_ hf (r_move hf rfl) fun a hf => ?_
    refine s_ hf (r_move hf rfl) fun a hf => ?_
    obtain ⟨hc4, hF⟩ := of_guard hF
    obtain ⟨ad5, c5, u5, he5, hl5, ho5⟩ := Ro.el_row h0 hc4.1 hc4.2
    refine s_ hf (r_idx Try.underlying24 sz36 hf rfl ⟨_, he5⟩ rfl hc4.1 hc4.2) fun a hf => ?_
    refine s_ hf (r_load_cell ty36 hf rfl (hl5.below hw.below)) fun a hf => ?_
    obtain ⟨x6, hx7, hF⟩ := of_bind hF
    refine st_fn 1 hw hf rfl rfl (by decide) (r_fnc en109 hf rfl rfl) (impl_inverted_1_ok (ho5.now hw) (hc1_0.below hw.below) hx7) fun a v w ρ hf hw hE hN hΦ => ?_
    obtain rfl := hΦ
    refine c_nt ?_
    rcases of_ite hF with ⟨hb8, hF⟩ | ⟨hb8, hF⟩
    rotate_left
    · refine c_iff hf rfl hb8 <| c_skip <| n_block <| n_then <| c_region ?_
      refine s_ hf (r_add hf rfl rfl) fun a hf => ?_
      refine s_ hf (r_move hf rfl) fun a hf => ?_
      refine c_nil ?_
      obtain rfl := Option.some.inj hF
      exact Rnd.goes ⟨_, hw, hf.sub ⟨rfl, rfl, rfl, rfl, trivial⟩⟩
    refine c_ift hf rfl hb8 <| c_seq <| c_region ?_
    refine s_ hf (r_move hf rfl) fun a hf => ?_
    refine s_ hf (r_assign hf rfl) fun a hf => ?_
    refine c_nt <| c_retc ?_
    obtain rfl := Option.some.inj hF
    refine r_block <| r_then ?_
    refine Rnd.rets fun ho => ?_
    subst ho
    have hF := hG1
    dsimp only at hF
    obtain rfl := Option.some.inj hF
    refine r_block <| r_then <| c_ret hf (res_tmp Try.results108 hf rfl) ?_
    exact ⟨_, rfl, hw.below, rfl⟩
  rintro s2 a w hs ⟨ρ, hw, hf⟩
  subst hs
  have hF := hG1
  dsimp only at hF
  refine x_block <| n_then <| c_seq <| c_region ?_
  refine s_ hf (r_assign hf rfl) fun a hf => ?_
  refine c_nt <| c_retc ?_
  obtain rfl := Option.some.inj hF
  refine c_ret hf (res_tmp Try.results108 hf rfl) ?_
  exact ⟨_, rfl, hw.below, rfl⟩
/-! f55 -/
noncomputable def impl_inverted_l1 (a1 : List (List Int)) (s2 : Int) (s3 : List Nat) (s4 : List (List Int)) : Option (LR (Int × (List Nat) × (List (List Int))) (List (List Int))) :=
  if (decide (s2 < (a1.length : Int))) = true then (if 0 ≤ s2 ∧ s2 < (a1.length : Int) then (if 0 ≤ (a1.length : Int) ∧ (a1.length : Int) * 8 ≤ 281474976710656 then (if 0 ≤ s2 ∧ s2 < ((List.replicate (a1.length : Int).toNat (0 : Int)).length : Int) then ((slices_Concat_107 ([gl [] a1 s2, ((List.replicate (a1.length : Int).toNat (0 : Int)).set s2.toNat 1)] : List (List Int))).bind fun x13 => if (s3.length + 1) * 24 ≤ 140737488355328 then (some (.next (w64 (s2 + 1), (s3 ++ [s4.length]), (s4 ++ [x13])))) else none) else none) else none) else none) else (some (.stop (s2, s3, s4)))
noncomputable def impl_inverted_l42 (a0 : Int) (s21 : Int) (s22 : List Nat) (s23 : List (List Int)) (x26 : Int) (x39 : Int) (s43 : Int) (s44 : List (List Int)) : Option (LR (Int × (List (List Int))) (List (List Int))) :=
  if (decide (s43 < ((s23.getD (gl 0 ((s22.set s21.toNat (gl 0 s22 (w64 (s21 + x26)))).set (w64 (s21 + x26)).toNat (gl 0 s22 s21)) s21) []).length : Int))) = true then (if 0 ≤ s43 ∧ s43 < ((s44.getD (gl 0 ((s22.set s21.toNat (gl 0 s22 (w64 (s21 + x26)))).set (w64 (s21 + x26)).toNat (gl 0 s22 s21)) s21) []).length : Int) then (if a0 ≠ 0 then (some (.next (w64 (s43 + 1), (s44.set (gl 0 ((s22.set s21.toNat (gl 0 s22 (w64 (s21 + x26)))).set (w64 (s21 + x26)).toNat (gl 0 s22 s21)) s21) ((s44.getD (gl 0 ((s22.set s21.toNat (gl 0 s22 (w64 (s21 + x26)))).set (w64 (s21 + x26)).toNat (gl 0 s22 s21)) s21) []).set s43.toNat ((w64 ((gl 0 (s44.getD (gl 0 ((s22.set s21.toNat (gl 0 s22 (w64 (s21 + x26)))).set (w64 (s21 + x26)).toNat (gl 0 s22 s21)) s21) []) s43) * x39)).tmod a0)))))) else none) else none) else (some (.stop (s43, s44)))
noncomputable def impl_inverted_l62 (a0 : Int) (s21 : Int) (s22 : List Nat) (x26 : Int) (s53 : Int) (s54 : List (List Int)) (s63 : Int) (s64 : List (List Int)) : Option (LR (Int × (List (List Int))) (List (List Int))) :=
  if (decide (s63 < ((s54.getD (gl 0 ((s22.set s21.toNat (gl 0 s22 (w64 (s21 + x26)))).set (w64 (s21 + x26)).toNat (gl 0 s22 s21)) s53) []).length : Int))) = true then (if 0 ≤ s63 ∧ s63 < ((s64.getD (gl 0 ((s22.set s21.toNat (gl 0 s22 (w64 (s21 + x26)))).set (w64 (s21 + x26)).toNat (gl 0 s22 s21)) s53) []).length : Int) then (if 0 ≤ s63 ∧ s63 < ((s64.getD (gl 0 ((s22.set s21.toNat (gl 0 s22 (w64 (s21 + x26)))).set (w64 (s21 + x26)).toNat (gl 0 s22 s21)) s21) []).length : Int) then (if a0 ≠ 0 then (some (.next (w64 (s63 + 1), (s64.set (gl 0 ((s22.set s21.toNat (gl 0 s22 (w64 (s21 + x26)))).set (w64 (s21 + x26)).toNat (gl 0 s22 s21)) s53) ((s64.getD (gl 0 ((s22.set s21.toNat (gl 0 s22 (w64 (s21 + x26)))).set (w64 (s21 + x26)).toNat (gl 0 s22 s21)) s53) []).set s63.toNat ((w64 ((gl 0 (s64.getD (gl 0 ((s22.set s21.toNat (gl 0 s22 (w64 (s21 + x26)))).set (w64 (s21 + x26)).toNat (gl 0 s22 s21)) s53) []) s63) + (w64 ((w64 (a0 - (gl 0 (s54.getD (gl 0 ((s22.set s21.toNat (gl 0 s22 (w64 (s21 + x26)))).set (w64 (s21 + x26)).toNat (gl 0 s22 s21)) s53) []) s21))) * (gl 0 (s64.getD (gl 0 ((s22.set s21.toNat (gl 0 s22 (w64 (s21 + x26)))).set (w64 (s21 + x26)).toNat (gl 0 s22 s21)) s21) []) s63))))).tmod a0)))))) else none) else none) else none) else (some (.stop (s63, s64)))
noncomputable def impl_inverted_l52 (a0 : Int) (s21 : Int) (s22 : List Nat) (x26 : Int) (s53 : Int) (s54 : List (List Int)) : Option (LR (Int × (List (List Int))) (List (List Int))) :=
  if (decide (s53 < (((s22.set s21.toNat (gl 0 s22 (w64 (s21 + x26)))).set (w64 (s21 + x26)).toNat (gl 0 s22 s21)).length : Int))) = true then (if (decide (s53 = s21)) = true then (some (.next (w64 (s53 + 1), s54))) else (if 0 ≤ s53 ∧ s53 < (((s22.set s21.toNat (gl 0 s22 (w64 (s21 + x26)))).set (w64 (s21 + x26)).toNat (gl 0 s22 s21)).length : Int) then (if 0 ≤ s21 ∧ s21 < ((s54.getD (gl 0 ((s22.set s21.toNat (gl 0 s22 (w64 (s21 + x26)))).set (w64 (s21 + x26)).toNat (gl 0 s22 s21)) s53) []).length : Int) then ((iter (fun s => impl_inverted_l62 a0 s21 s22 x26 s53 s54 s.1 s.2) (0, s54)).bind fun o => match o with | .stop (s63, s64) => (some (.next (w64 (s53 + 1), s64))) | .ret r => some (.ret r) | .next _ => none) else none) else none)) else (some (.stop (s53, s54)))
noncomputable def impl_inverted_l20 (a0 : Int) (a1 : List (List Int)) (s21 : Int) (s22 : List Nat) (s23 : List (List Int)) : Option (LR (Int × (List Nat) × (List (List Int))) (List (List Int))) :=
  if (decide (s21 < (a1.length : Int))) = true then (if 0 ≤ s21 ∧ s21 ≤ ((gi s22 s23).length : Int) then ((slices_IndexFunc_108_f109 (((gi s22 s23).take ((gi s22 s23).length : Int).toNat).drop s21.toNat) s21).bind fun x26 => if 0 ≤ w64 (s21 + x26) ∧ w64 (s21 + x26) < (s22.length : Int) then (if 0 ≤ s21 ∧ s21 < (s22.length : Int) then (if 0 ≤ w64 (s21 + x26) ∧ w64 (s21 + x26) < ((s22.set s21.toNat (gl 0 s22 (w64 (s21 + x26)))).length : Int) then (if 0 ≤ s21 ∧ s21 < (((s22.set s21.toNat (gl 0 s22 (w64 (s21 + x26)))).set (w64 (s21 + x26)).toNat (gl 0 s22 s21)).length : Int) then (if 0 ≤ s21 ∧ s21 < ((s23.getD (gl 0 ((s22.set s21.toNat (gl 0 s22 (w64 (s21 + x26)))).set (w64 (s21 + x26)).toNat (gl 0 s22 s21)) s21) []).length : Int) then ((impl_inverse a0 (gl 0 (s23.getD (gl 0 ((s22.set s21.toNat (gl 0 s22 (w64 (s21 + x26)))).set (w64 (s21 + x26)).toNat (gl 0 s22 s21)) s21) []) s21)).bind fun x39 => (iter (fun s => impl_inverted_l42 a0 s21 s22 s23 x26 x39 s.1 s.2) (0, s23)).bind fun o => match o with | .stop (s43, s44) => ((iter (fun s => impl_inverted_l52 a0 s21 s22 x26 s.1 s.2) (0, s44)).bind fun o => match o with | .stop (s53, s54) => (some (.next (w64 (s21 + 1), ((s22.set s21.toNat (gl 0 s22 (w64 (s21 + x26)))).set (w64 (s21 + x26)).toNat (gl 0 s22 s21)), s54))) | .ret r => some (.ret r) | .next _ => none) | .ret r => some (.ret r) | .next _ => none) else none) else none) else none) else none) else none) else none) else (some (.stop (s21, s22, s23)))
noncomputable def impl_inverted_l75 (a1 : List (List Int)) (s22 : List Nat) (s23 : List (List Int)) (s76 : Int) (s77 : List Nat) (s78 : List (List Int)) : Option (LR (Int × (List Nat) × (List (List Int))) (List (List Int))) :=
  if (decide (s76 < (s22.length : Int))) = true then (if 0 ≤ s76 ∧ s76 < (s22.length : Int) then (if 0 ≤ (a1.length : Int) ∧ (a1.length : Int) ≤ ((s23.getD (gl 0 s22 s76) []).length : Int) then ((slices_Clone_111 (((s23.getD (gl 0 s22 s76) []).take ((s23.getD (gl 0 s22 s76) []).length : Int).toNat).drop (a1.length : Int).toNat)).bind fun x85 => if (s77.length + 1) * 24 ≤ 140737488355328 then (some (.next (w64 (s76 + 1), (s77 ++ [s78.length]), (s78 ++ [x85])))) else none) else none) else none) else (some (.stop (s76, s77, s78)))
noncomputable def impl_inverted (a0 : Int) (a1 : List (List Int)) : Option (List (List Int)) :=
  (iter (fun s => impl_inverted_l1 a1 s.1 s.2.1 s.2.2) (0, ([] : List Nat), ([] : List (List Int)))).bind fun o => match o with | .stop (s2, s3, s4) => ((iter (fun s => impl_inverted_l20 a0 a1 s.1 s.2.1 s.2.2) (0, s3, s4)).bind fun o => match o with | .stop (s21, s22, s23) => ((iter (fun s => impl_inverted_l75 a1 s22 s23 s.1 s.2.1 s.2.2) (0, ([] : List Nat), ([] : List (List Int)))).bind fun o => match o with | .stop (s76, s77, s78) => (some ((gi s77 s78))) | .ret r => some r | .next _ => none) | .ret r => some r | .next _ => none) | .ret r => some r | .next _ => none
theorem impl_inverted_ok {w0 : World} {a0 : Int} {a1 : List (List Int)} {va1 : Value} (h1 : Ro (Kd.slice 2 (kf fI64)) w0 va1 a1) {r : List (List Int)} (hF : impl_inverted a0 a1 = some r) :
    Calls Try.prog 55 [vI a0, va1].toArray w0 fun e w => ∃ v, e = .returned v ∧ Below w0.heap.size w0 w ∧ ∃ u0, u0 = v ∧ Fresh (Kd.slice 2 (kf fI64)) 36 w0 w u0 r := by
  refine calls_of (k := 172) Try.func55 rfl rfl (Nat.le_of_ble_eq_true rfl) fun a hf => ?_
  replace hf : Fr 172 a [(0, vI a0), (1, va1)] := hf
  refine c_start fun w ρ hw => ?_
  unfold impl_inverted at hF
  refine c_seq <| c_region ?_
  have o1 : Ow (Kd.slice 2 (kf fI64)) 36 ρ w w0.heap.size 1 (.slice none 0 0) [] := Ow.nil _ _ _ _ _ _
  refine s_ hf (r_assign hf rfl) fun a hf => ?_
  refine c_nt <| c_seq <| c_region ?_
  refine s_ hf (r_move hf rfl) fun a hf => ?_
  refine s_ hf (r_len Try.underlying24 (h1.now hw) hf rfl) fun a hf => ?_
  refine s_ hf (r_assign hf rfl) fun a hf => ?_
  refine c_nt <| c_seq <| c_region ?_
  refine sx_ hf (r_lit_none (d := (Kd.slice 2 (kf fI64))) 2 Try.underlying24 el36 hw) fun a v2 w hf hΦ => ?_
  obtain ⟨ρ, hw, hE, o2⟩ := hΦ
  replace o1 := o1.ext hE
  replace o2 : Gd fI64 2 36 ρ w w0.heap.size 2 v2 (fun _ => (⟨.bool false, rfl⟩ : V1)) ([] : List Nat) ([] : List (List Int)) := Gd.empty o2 rfl (by decide) _
  refine s_ hf (r_assign hf rfl) fun a hf => ?_
  refine c_nt <| c_seq <| c_seq <| c_region ?_
  refine s_ hf (r_move hf rfl) fun a hf => ?_
  refine s_ hf (r_len Try.underlying24 (h1.now hw) hf rfl) fun a hf => ?_
  refine s_ hf (r_move hf rfl) fun a hf => ?_
  refine c_nt ?_
  obtain ⟨ol1, ho1, hG1⟩ := of_bind hF
  clear hF
  refine c_block (c_loop (id := 0) (fun s => impl_inverted_l1 a1 s.1 s.2.1 s.2.2) (fun (s : Int × (List Nat) × (List (List Int))) a w => match s with | (s2, s3, s4) => ∃ ρ vv5 f6, Wd w0 ρ w ∧ Fr 172 a [(0, vI a0), (5, vI (a1.length : Int)), (6, vv5), (23, va1), (24, vI (a1.length : Int)), (25, vI s2)] ∧ Gd fI64 2 36 ρ w w0.heap.size 2 vv5 f6 s3 s4) (fun (s : Int × (List Nat) × (List (List Int))) a w => match s with | (s2, s3, s4) => ∃ ρ vv5 f6, Wd w0 ρ w ∧ Fr 172 a [(0, vI a0), (5, vI (a1.length : Int)), (6, vv5)] ∧ Gd fI64 2 36 ρ w w0.heap.size 2 vv5 f6 s3 s4) ho1 ⟨_, _, _, hw, hf.sub ⟨rfl, rfl, rfl, rfl, rfl, rfl, trivial⟩, o2⟩ ?_ ?_)
  · rintro ⟨s2, s3, s4⟩ lr a w ⟨ρ, vv5, f6, hw, hf, o2⟩ hF
    replace hF : impl_inverted_l1 a1 s2 s3 s4 = some lr := hF
    unfold impl_inverted_l1 at hF
    refine c_seq <| c_region ?_
    refine s_ hf (r_lss hf rfl rfl) fun a hf => ?_
    refine c_nt <| c_seq ?_
    rcases of_ite hF with ⟨hb7, hF⟩ | ⟨hb7, hF⟩
    rotate_left
    · refine c_iff hf rfl hb7 <| c_exit <| x_then ?_
      obtain rfl := Option.some.inj hF
      exact Rnd.stops ⟨_, _, _, hw, hf.sub ⟨rfl, rfl, rfl, trivial⟩, o2⟩
    refine c_ift hf rfl hb7 <| c_skip <| n_then <| c_seq <| c_block <| c_seq <| c_region ?_
    refine s_ hf (r_move hf rfl) fun a hf => ?_
    obtain ⟨hc8, hF⟩ := of_guard hF
    obtain ⟨ad9, c9, u9, he9, hl9, ho9⟩ := Ro.el_row h1 hc8.1 hc8.2
    refine s_ hf (r_idx Try.underlying24 sz36 hf rfl ⟨_, he9⟩ rfl hc8.1 hc8.2) fun a hf => ?_
    refine s_ hf (r_load_cell ty36 hf rfl (hl9.below hw.below)) fun a hf => ?_
    refine s_ hf (r_assign hf rfl) fun a hf => ?_
    refine s_ hf (r_assign hf rfl) fun a hf => ?_
    refine c_nt <| c_seq <| c_region ?_
    refine s_ hf (r_move hf rfl) fun a hf => ?_
    obtain ⟨hc10, hF⟩ := of_guard hF
    refine sx_ hf (r_make (d := fI64) (z0 := 0) 3 Try.underlying36 el2 rfl hw hf rfl hc10.1 (mk_le hc10.1 hc10.2)) fun a v3 w hf hΦ => ?_
    obtain ⟨ρ, hw, hE, o3⟩ := hΦ
    replace o2 := o2.ext hE
    refine s_ hf (r_assign hf rfl) fun a hf => ?_
    refine c_nt <| c_seq <| c_region ?_
    refine s_ hf (r_move hf rfl) fun a hf => ?_
    refine s_ hf (r_move hf rfl) fun a hf => ?_
    obtain ⟨hc11, hF⟩ := of_guard hF
    obtain ⟨ad12, hl12⟩ := Ow.ce (d := fI64) o3 0 hc11.1 hc11.2
    refine s_ hf (r_idx Try.underlying36 sz2 hf rfl hl12.at_ rfl hc11.1 hc11.2) fun a hf => ?_
    refine sk_ hf (r_store_ec (b := 1) 0 hw (by decide) o3 hc11.1 hc11.2 (Lens.id _) hl12.at_ ty2 (by first | rfl | exact Nat.add_assoc _ _ _ | (simp only [Nat.add_assoc]; rfl)) hf rfl rfl rfl) fun a w hf hΦ => ?_
    obtain ⟨hw, hA, o3⟩ := hΦ
    replace o2 := o2.adv hA (by decide) (fun _ => by unfold lab; omega)
    refine c_nt <| c_region ?_
    refine s_ hf (r_move hf rfl) fun a hf => ?_
    refine s_ hf (r_move hf rfl) fun a hf => ?_
    refine s_ hf (r_move hf rfl) fun a hf => ?_
    refine sx_ hf (r_lit_ro (d := (Kd.slice 2 (kf fI64))) (m := 1) (xs := ([gl [] a1 s2, ((List.replicate (a1.length : Int).toNat (0 : Int)).set s2.toNat 1)] : List (List Int))) (raws := [⟨[u9], rfl, one_one (ho9.now hw).one⟩, ⟨[v3], rfl, one_one o3.ro.one⟩]) (vs := [u9, v3]) rfl Try.underlying24 el36 (Nat.le_of_ble_eq_true rfl) (Nat.le_of_ble_eq_true rfl) hw hf rfl rfl (cl2 (ho9.now hw).cells1 (cl2 o3.ro.cells1 rfl)) ⟨(ho9.now hw).K 2, ⟨o3.ro.K 2, trivial⟩⟩) fun a v5 w hf hΦ => ?_
    obtain ⟨ρ, hw, hE, o5⟩ := hΦ
    replace o2 := o2.ext hE
    replace o3 := o3.ext hE
    obtain ⟨x13, hx14, hF⟩ := of_bind hF
    refine st_fn 6 hw hf rfl rfl (by decide) (r_fn en107 hf rfl) (slices_Concat_107_ok o5 hx14) fun a v w ρ hf hw hE hN hΦ => ?_
    obtain ⟨u15, rfl, hr16⟩ := hΦ
    replace o2 := o2.ext hE
    replace o3 := o3.ext hE
    replace o5 := o5.ext hE
    have o6 := hN hr16
    refine sx_ hf (r_glit 7 Try.underlying24 el36 hw hf rfl o6) fun a v7 w hf hΦ => ?_
    obtain ⟨ρ, hw, hE, o7⟩ := hΦ
    replace o2 := o2.ext hE
    replace o3 := o3.ext hE
    replace o5 := o5.ext hE
    replace o6 := o6.ext hE
    obtain ⟨hc17, hF⟩ := of_guard hF
    refine sx_ hf (r_gapp' Try.underlying24 el36 hw (by decide) (by decide) (fun _ => by unfold lab; omega) o2 o7 o6 hc17 hf rfl rfl) fun a va18 w hf hΦ => ?_
    obtain ⟨f18, ρ, hw, hT, o2, hff18, hnu18⟩ := hΦ
    replace o3 := o3.tr (hT 3 (by decide) (by decide))
    rw [hnu18] at hf
    have hn19 : s4.length < (s4 ++ [x13]).length := by simp
    refine s_ hf (r_assign hf rfl) fun a hf => ?_
    refine c_nil <| n_block <| n_then <| c_region ?_
    refine s_ hf (r_add hf rfl rfl) fun a hf => ?_
    refine s_ hf (r_move hf rfl) fun a hf => ?_
    refine c_nil ?_
    obtain rfl := Option.some.inj hF
    exact Rnd.goes ⟨_, _, _, hw, hf.sub ⟨rfl, rfl, rfl, rfl, rfl, rfl, trivial⟩, o2⟩
  rintro ⟨s2, s3, s4⟩ a w hs ⟨ρ, vv5, f6, hw, hf, o2⟩
  subst hs
  have hF := hG1
  dsimp only at hF
  refine x_block <| n_then <| c_seq <| c_seq <| c_region ?_
  refine s_ hf (r_move hf rfl) fun a hf => ?_
  refine s_ hf (r_move hf rfl) fun a hf => ?_
  refine c_nt ?_
  obtain ⟨ol20, ho20, hG20⟩ := of_bind hF
  clear hF
  refine c_block (c_loop (id := 2) (fun s => impl_inverted_l20 a0 a1 s.1 s.2.1 s.2.2) (fun (s : Int × (List Nat) × (List (List Int))) a w => match s with | (s21, s22, s23) => ∃ ρ, Wd w0 ρ w ∧ Fr 172 a [(0, vI a0), (5, vI (a1.length : Int)), (6, vv5), (43, vI (a1.length : Int)), (44, vI s21)] ∧ Gd fI64 2 36 ρ w w0.heap.size 2 vv5 f6 s22 s23) (fun (s : Int × (List Nat) × (List (List Int))) a w => match s with | (s21, s22, s23) => ∃ ρ, Wd w0 ρ w ∧ Fr 172 a [(5, vI (a1.length : Int)), (6, vv5)] ∧ Gd fI64 2 36 ρ w w0.heap.size 2 vv5 f6 s22 s23) ho20 ⟨_, hw, hf.sub ⟨rfl, rfl, rfl, rfl, rfl, trivial⟩, o2⟩ ?_ ?_)
  · rintro ⟨s21, s22, s23⟩ lr a w ⟨ρ, hw, hf, o2⟩ hF
    replace hF : impl_inverted_l20 a0 a1 s21 s22 s23 = some lr := hF
    unfold impl_inverted_l20 at hF
    refine c_seq <| c_region ?_
    refine s_ hf (r_lss hf rfl rfl) fun a hf => ?_
    refine c_nt <| c_seq ?_
    rcases of_ite hF with ⟨hb24, hF⟩ | ⟨hb24, hF⟩
    rotate_left
    · refine c_iff hf rfl hb24 <| c_exit <| x_then ?_
      obtain rfl := Option.some.inj hF
      exact Rnd.stops ⟨_, hw, hf.sub ⟨rfl, rfl, trivial⟩, o2⟩
    refine c_ift hf rfl hb24 <| c_skip <| n_then <| c_seq <| c_block <| c_seq <| c_region ?_
    refine s_ hf (r_move hf rfl) fun a hf => ?_
    refine sx_ hf (r_alloc (cs := [vI 0]) 9 ze3 rfl hw) fun a v w hf hΦ => ?_
    obtain ⟨g9, ρ, rfl, hw, hE, o9⟩ := hΦ
    replace o2 := o2.ext hE
    refine sk_ hf (r_store_w (cs' := [vI s21]) hw o9 (by decide) ty3 rfl rfl (one_one rfl) hf rfl rfl rfl) fun a w hf hΦ => ?_
    obtain ⟨hw, hA, o9⟩ := hΦ
    replace o2 := o2.adv hA (by decide) (fun _ => by unfold lab; omega)
    refine c_nt <| c_seq ?_
    obtain ⟨hc25, hF⟩ := of_guard hF
    obtain ⟨x26, hx27, hF⟩ := of_bind hF
    replace hf : Fr 172 a [(0, vI a0), (5, vI (a1.length : Int)), (6, vv5), (10, .pointer (some ((⟨g9, 0, none⟩ : Addr).add 0))), (43, vI (a1.length : Int)), (44, vI s21)] := hf.sub ⟨rfl, rfl, rfl, rfl, rfl, rfl, trivial⟩
    refine c_drawL (h := 6) mixed (by kernel_rfl) (by kernel_rfl) (fun ρ w => Gd fI64 2 36 ρ w w0.heap.size 2 vv5 f6 s22 s23 ∧ Va ρ w 9 g9 3 ([vI s21])) ?_ [fun ρ w v => vI s21 = v, fun ρ w v => vv5 = v, fun ρ w v => vI s21 = v, fun ρ w v => (cutV vv5 s21.toNat ((gi s22 s23).length : Int).toNat 1) = v ∧ Ro (Kd.slice 2 (kf fI64)) w (cutV vv5 s21.toNat ((gi s22 s23).length : Int).toNat 1) (((gi s22 s23).take ((gi s22 s23).length : Int).toNat).drop s21.toNat), fun ρ w v => .func (.func 109) #[] #[.pointer (some ((⟨g9, 0, none⟩ : Addr).add 0))] = v, fun ρ w v => vI x26 = v] ?_ hw ⟨o2, o9⟩ hf ?_ ?_
    · intro ρ w ρ' w' hE hG
      obtain ⟨o2, o9⟩ := hG
      exact ⟨o2.ext hE, o9.ext hE⟩
    · exact LastsL.cons (fun _ _ _ _ _ _ h => h) <| LastsL.cons (fun _ _ _ _ _ _ h => h) <| LastsL.cons (fun _ _ _ _ _ _ h => h) <| LastsL.cons (fun _ _ _ _ _ hE h => by obtain ⟨h, o10⟩ := h; exact ⟨h, o10.ext hE⟩) <| LastsL.cons (fun _ _ _ _ _ _ h => h) <| LastsL.cons (fun _ _ _ _ _ _ h => h) <| LastsL.nil
    · refine StepsB.cons ?_ <| StepsB.cons ?_ <| StepsB.cons ?_ <| StepsB.cons ?_ <| StepsB.cons ?_ <| StepsB.cons ?_ <| StepsB.nil
      · intro ρ w a hw hG hf hd K hK
        obtain ⟨o2, o9⟩ := hG
        exact dv_ hK hw (wn rfl) (r_load_cell ty3 hf rfl o9.cl) rfl
      · intro ρ w a hw hG hf hd K hK
        obtain ⟨o2, o9⟩ := hG
        exact dv_ hK hw (wn rfl) (r_move hf rfl) rfl
      · intro ρ w a hw hG hf hd K hK
        obtain ⟨o2, o9⟩ := hG
        exact dv_ hK hw (wn rfl) (r_load_cell ty3 hf rfl o9.cl) rfl
      · intro ρ w a hw hG hf hd K hK
        obtain ⟨o2, o9⟩ := hG
        obtain ⟨_, hf, rfl⟩ := got (hd 1 (by kernel_rfl)) hf
        obtain ⟨_, hf, rfl⟩ := got (hd 2 (by kernel_rfl)) hf
        have o10 : Ro (Kd.slice 2 (kf fI64)) w (cutV vv5 s21.toNat ((gi s22 s23).length : Int).toNat 1) (((gi s22 s23).take ((gi s22 s23).length : Int).toNat).drop s21.toNat) := ro_cutV o2.ro hc25.1 hc25.2 (Int.le_refl _)
        exact dv_ hK hw (wn rfl) (r_cut_v (lo := s21) (hi := ((gi s22 s23).length : Int)) Try.underlying24 sz36 rfl o2.ro hf rfl (.inr ⟨_, rfl, rfl⟩) (.inl ⟨rfl, rfl⟩) hc25.1 hc25.2 (Int.le_refl _)) (an_ rfl <| o10)
      · intro ρ w a hw hG hf hd K hK
        obtain ⟨o2, o9⟩ := hG
        exact dv_ hK hw (wn rfl) (r_mkfn hf rfl) rfl
      · intro ρ w a hw hG hf hd K hK
        obtain ⟨o2, o9⟩ := hG
        obtain ⟨_, hf, ⟨rfl, o10⟩⟩ := got (hd 3 (by kernel_rfl)) hf
        obtain ⟨_, hf, rfl⟩ := got (hd 4 (by kernel_rfl)) hf
        refine dc_ hK hw (wn rfl) (r_fn en108 hf rfl) (slices_IndexFunc_108_f109_ok o10 o9.cl hx27) fun v w' hΦ => ?_
        obtain ⟨hb, hΦ⟩ := hΦ
        obtain rfl := hΦ
        have hE := Ext.new (ρ := ρ) 11 hb
        exact ⟨_, hw.new 11 hb, hE, rfl⟩
    intro ρ w a hw hG hf hd
    obtain ⟨o2, o9⟩ := hG
    obtain ⟨_, hf, rfl⟩ := got (hd 0 (by decide)) hf
    obtain ⟨_, hf, rfl⟩ := got (hd 5 (by decide)) hf
    refine s_ hf (r_add hf rfl rfl) fun a hf => ?_
    refine s_ hf (r_assign hf rfl) fun a hf => ?_
    refine c_nt <| c_seq ?_
    obtain ⟨hc28, hF⟩ := of_guard hF
    obtain ⟨hc30, hF⟩ := of_guard hF
    replace hf : Fr 172 a [(0, vI a0), (5, vI (a1.length : Int)), (6, vv5), (10, .pointer (some ((⟨g9, 0, none⟩ : Addr).add 0))), (11, vI (w64 (s21 + x26))), (43, vI (a1.length : Int)), (44, vI s21)] := hf.sub ⟨rfl, rfl, rfl, rfl, rfl, rfl, rfl, trivial⟩
    refine c_stage 14 [13] mixed (by kernel_rfl) (by kernel_rfl) (fun c ρ w => Va ρ w 9 g9 3 ([vI s21]) ∧ (c ≤ 0 → Gd fI64 2 36 ρ w w0.heap.size 2 vv5 f6 s22 s23) ∧ (0 < c → Gd fI64 2 36 ρ w w0.heap.size 2 vv5 f6 (s22.set s21.toNat (gl 0 s22 (w64 (s21 + x26)))) s23)) ?_ [fun c ρ w v => vv5 = v, fun c ρ w v => vI s21 = v, fun c ρ w v => vv5 = v, fun c ρ w v => vI (w64 (s21 + x26)) = v, fun c ρ w v => vv5 = v, fun c ρ w v => vI (w64 (s21 + x26)) = v, fun c ρ w v => ∃ ad29, .pointer (some (ad29.add ((w64 (s21 + x26)).toNat * 1))) = v ∧ (gl 0 s22 (w64 (s21 + x26))) < s23.length ∧ (c ≤ 0 → Ce ρ w 2 vv5 s22.length ad29 ((w64 (s21 + x26)).toNat * 1) ([(f6 (gl 0 s22 (w64 (s21 + x26)))).1])), fun c ρ w v => (f6 (gl 0 s22 (w64 (s21 + x26)))).1 = v ∧ (gl 0 s22 (w64 (s21 + x26))) < s23.length, fun c ρ w v => vv5 = v, fun c ρ w v => vI s21 = v, fun c ρ w v => ∃ ad31, .pointer (some (ad31.add (s21.toNat * 1))) = v ∧ (gl 0 s22 s21) < s23.length ∧ (c ≤ 0 → Ce ρ w 2 vv5 s22.length ad31 (s21.toNat * 1) ([(f6 (gl 0 s22 s21)).1])), fun c ρ w v => (f6 (gl 0 s22 s21)).1 = v ∧ (gl 0 s22 s21) < s23.length, fun c ρ w v => ∃ ad32, .pointer (some (ad32.add (s21.toNat * 1))) = v ∧ (gl 0 s22 s21) < s23.length ∧ (c ≤ 0 → Ce ρ w 2 vv5 s22.length ad32 (s21.toNat * 1) ([(f6 (gl 0 s22 s21)).1])), fun _ _ _ _ => True] ?_ hw ⟨o9, (fun _ => o2), (fun h => absurd h (Nat.not_lt_zero _))⟩ hf ?_ ?_
    · intro c ρ w ρ' w' hE hG
      obtain ⟨o9, o2x, o2y⟩ := hG
      exact ⟨o9.ext hE, (fun h => (o2x h).ext hE), (fun h => by obtain o2 := o2y h; exact o2.ext hE)⟩
    · exact LastsS.cons (fun _ _ _ _ _ _ _ h => h) <| LastsS.cons (fun _ _ _ _ _ _ _ h => h) <| LastsS.cons (fun _ _ _ _ _ _ _ h => h) <| LastsS.cons (fun _ _ _ _ _ _ _ h => h) <| LastsS.cons (fun _ _ _ _ _ _ _ h => h) <| LastsS.cons (fun _ _ _ _ _ _ _ h => h) <| LastsS.cons (fun c _ _ _ _ _ hE h => by obtain ⟨ad29, h, hn29, hl29⟩ := h; exact ⟨_, h, hn29, (fun h => (hl29 h).ext hE)⟩) <| LastsS.cons (fun c _ _ _ _ _ hE h => by obtain ⟨h, hn29⟩ := h; exact ⟨h, hn29⟩) <| LastsS.cons (fun _ _ _ _ _ _ _ h => h) <| LastsS.cons (fun _ _ _ _ _ _ _ h => h) <| LastsS.cons (fun c _ _ _ _ _ hE h => by obtain ⟨ad31, h, hn31, hl31⟩ := h; exact ⟨_, h, hn31, (fun h => (hl31 h).ext hE)⟩) <| LastsS.cons (fun c _ _ _ _ _ hE h => by obtain ⟨h, hn31⟩ := h; exact ⟨h, hn31⟩) <| LastsS.cons (fun c _ _ _ _ _ hE h => by obtain ⟨ad32, h, hn32, hl32⟩ := h; exact ⟨_, h, hn32, (fun h => (hl32 h).ext hE)⟩) <| LastsS.cons (fun _ _ _ _ _ _ _ h => h) <| LastsS.nil
    · refine StepsS.float rfl ?_ <| StepsS.float rfl ?_ <| StepsS.float rfl ?_ <| StepsS.float rfl ?_ <| StepsS.float rfl ?_ <| StepsS.float rfl ?_ <| StepsS.float rfl ?_ <| StepsS.float rfl ?_ <| StepsS.float rfl ?_ <| StepsS.float rfl ?_ <| StepsS.float rfl ?_ <| StepsS.float rfl ?_ <| StepsS.float rfl ?_ <| StepsS.main 0 rfl rfl ?_ <| StepsS.nil
      · intro c ρ w a hs hw hG hf hd K hK
        obtain ⟨o9, o2x, o2y⟩ := hG
        have o2 := o2x (hs 0 (by decide) (by kernel_rfl))
        exact dv_ hK hw (wn rfl) (r_move hf rfl) rfl
      · intro c ρ w a hs hw hG hf hd K hK
        obtain ⟨o9, o2x, o2y⟩ := hG
        have o2 := o2x (hs 0 (by decide) (by kernel_rfl))
        exact dv_ hK hw (wn rfl) (r_load_cell ty3 hf rfl o9.cl) rfl
      · intro c ρ w a hs hw hG hf hd K hK
        obtain ⟨o9, o2x, o2y⟩ := hG
        exact dv_ hK hw (wn rfl) (r_move hf rfl) rfl
      · intro c ρ w a hs hw hG hf hd K hK
        obtain ⟨o9, o2x, o2y⟩ := hG
        exact dv_ hK hw (wn rfl) (r_move hf rfl) rfl
      · intro c ρ w a hs hw hG hf hd K hK
        obtain ⟨o9, o2x, o2y⟩ := hG
        have o2 := o2x (hs 0 (by decide) (by kernel_rfl))
        exact dv_ hK hw (wn rfl) (r_move hf rfl) rfl
      · intro c ρ w a hs hw hG hf hd K hK
        obtain ⟨o9, o2x, o2y⟩ := hG
        have o2 := o2x (hs 0 (by decide) (by kernel_rfl))
        exact dv_ hK hw (wn rfl) (r_move hf rfl) rfl
      · intro c ρ w a hs hw hG hf hd K hK
        obtain ⟨o9, o2x, o2y⟩ := hG
        have o2 := o2x (hs 0 (by decide) (by kernel_rfl))
        obtain ⟨_, ht4, rfl⟩ := hd 4 (by kernel_rfl) (by kernel_rfl)
        replace hf := hf.more ht4
        obtain ⟨_, ht5, rfl⟩ := hd 5 (by kernel_rfl) (by kernel_rfl)
        replace hf := hf.more ht5
        obtain ⟨ad29, hl29⟩ := Ow.ce (d := fRef f6) o2.out 0 hc28.1 hc28.2
        have hn29 := o2.lt_gl hc28.1 hc28.2
        exact dv_ hK hw (wn rfl) (r_idx Try.underlying24 sz36 hf rfl hl29.at_ rfl hc28.1 hc28.2) (ex_ <| an_ rfl <| an_ hn29 <| fun _ => hl29)
      · intro c ρ w a hs hw hG hf hd K hK
        obtain ⟨o9, o2x, o2y⟩ := hG
        have o2 := o2x (hs 0 (by decide) (by kernel_rfl))
        obtain ⟨_, ht6, ⟨ad29, rfl, hn29, hl29⟩⟩ := hd 6 (by kernel_rfl) (by kernel_rfl)
        replace hl29 := hl29 (hs 0 (by decide) (by kernel_rfl))
        replace hf := hf.more ht6
        exact dv_ hK hw (wn rfl) (r_load_cell ty36 hf rfl hl29.co.cl) (an_ rfl <| hn29)
      · intro c ρ w a hs hw hG hf hd K hK
        obtain ⟨o9, o2x, o2y⟩ := hG
        exact dv_ hK hw (wn rfl) (r_move hf rfl) rfl
      · intro c ρ w a hs hw hG hf hd K hK
        obtain ⟨o9, o2x, o2y⟩ := hG
        exact dv_ hK hw (wn rfl) (r_load_cell ty3 hf rfl o9.cl) rfl
      · intro c ρ w a hs hw hG hf hd K hK
        obtain ⟨o9, o2x, o2y⟩ := hG
        have o2 := o2x (hs 0 (by decide) (by kernel_rfl))
        obtain ⟨_, ht8, rfl⟩ := hd 8 (by kernel_rfl) (by kernel_rfl)
        replace hf := hf.more ht8
        obtain ⟨_, ht9, rfl⟩ := hd 9 (by kernel_rfl) (by kernel_rfl)
        replace hf := hf.more ht9
        obtain ⟨ad31, hl31⟩ := Ow.ce (d := fRef f6) o2.out 0 hc30.1 hc30.2
        have hn31 := o2.lt_gl hc30.1 hc30.2
        exact dv_ hK hw (wn rfl) (r_idx Try.underlying24 sz36 hf rfl hl31.at_ rfl hc30.1 hc30.2) (ex_ <| an_ rfl <| an_ hn31 <| fun _ => hl31)
      · intro c ρ w a hs hw hG hf hd K hK
        obtain ⟨o9, o2x, o2y⟩ := hG
        have o2 := o2x (hs 0 (by decide) (by kernel_rfl))
        obtain ⟨_, ht10, ⟨ad31, rfl, hn31, hl31⟩⟩ := hd 10 (by kernel_rfl) (by kernel_rfl)
        replace hl31 := hl31 (hs 0 (by decide) (by kernel_rfl))
        replace hf := hf.more ht10
        exact dv_ hK hw (wn rfl) (r_load_cell ty36 hf rfl hl31.co.cl) (an_ rfl <| hn31)
      · intro c ρ w a hs hw hG hf hd K hK
        obtain ⟨o9, o2x, o2y⟩ := hG
        have o2 := o2x (hs 0 (by decide) (by kernel_rfl))
        obtain ⟨_, ht0, rfl⟩ := hd 0 (by kernel_rfl) (by kernel_rfl)
        replace hf := hf.more ht0
        obtain ⟨_, ht1, rfl⟩ := hd 1 (by kernel_rfl) (by kernel_rfl)
        replace hf := hf.more ht1
        obtain ⟨ad32, hl32⟩ := Ow.ce (d := fRef f6) o2.out 0 hc30.1 hc30.2
        have hn32 := o2.lt_gl hc30.1 hc30.2
        exact dv_ hK hw (wn rfl) (r_idx Try.underlying24 sz36 hf rfl hl32.at_ rfl hc30.1 hc30.2) (ex_ <| an_ rfl <| an_ hn32 <| fun _ => hl32)
      · intro ρ w a S hw hG hf hS hdep hSi K hK
        obtain ⟨o9, o2x, o2y⟩ := hG
        have hfL := hf
        have o2 := o2x (by decide)
        obtain ⟨_, ht7, ⟨rfl, hn29⟩⟩ := hS 7 (by decide) (hdep 7 (by kernel_rfl)) (by kernel_rfl)
        replace hf := hf.more ht7
        obtain ⟨_, ht12, ⟨ad32, rfl, hn32, hl32⟩⟩ := hS 12 (by decide) (hdep 12 (by kernel_rfl)) (by kernel_rfl)
        replace hl32 := hl32 (by decide)
        replace hf := hf.more ht12
        refine m_skip (Γ := fun c ρ w => Va ρ w 9 g9 3 ([vI s21]) ∧ (c ≤ 0 → Gd fI64 2 36 ρ w w0.heap.size 2 vv5 f6 s22 s23) ∧ (0 < c → Gd fI64 2 36 ρ w w0.heap.size 2 vv5 f6 (s22.set s21.toNat (gl 0 s22 (w64 (s21 + x26)))) s23)) (Rl := [fun c ρ w v => vv5 = v, fun c ρ w v => vI s21 = v, fun c ρ w v => vv5 = v, fun c ρ w v => vI (w64 (s21 + x26)) = v, fun c ρ w v => vv5 = v, fun c ρ w v => vI (w64 (s21 + x26)) = v, fun c ρ w v => ∃ ad29, .pointer (some (ad29.add ((w64 (s21 + x26)).toNat * 1))) = v ∧ (gl 0 s22 (w64 (s21 + x26))) < s23.length ∧ (c ≤ 0 → Ce ρ w 2 vv5 s22.length ad29 ((w64 (s21 + x26)).toNat * 1) ([(f6 (gl 0 s22 (w64 (s21 + x26)))).1])), fun c ρ w v => (f6 (gl 0 s22 (w64 (s21 + x26)))).1 = v ∧ (gl 0 s22 (w64 (s21 + x26))) < s23.length, fun c ρ w v => vv5 = v, fun c ρ w v => vI s21 = v, fun c ρ w v => ∃ ad31, .pointer (some (ad31.add (s21.toNat * 1))) = v ∧ (gl 0 s22 s21) < s23.length ∧ (c ≤ 0 → Ce ρ w 2 vv5 s22.length ad31 (s21.toNat * 1) ([(f6 (gl 0 s22 s21)).1])), fun c ρ w v => (f6 (gl 0 s22 s21)).1 = v ∧ (gl 0 s22 s21) < s23.length, fun c ρ w v => ∃ ad32, .pointer (some (ad32.add (s21.toNat * 1))) = v ∧ (gl 0 s22 s21) < s23.length ∧ (c ≤ 0 → Ce ρ w 2 vv5 s22.length ad32 (s21.toNat * 1) ([(f6 (gl 0 s22 s21)).1])), fun _ _ _ _ => True]) hfL hS (by kernel_rfl) rfl (wn rfl) (r_gset (p := s21) hw o2 hn29 hc30.1 hc30.2 hl32.at_ ty36 rfl hf rfl rfl) (fun w' hΦ => ?_) hK
        obtain ⟨hw, hA, o2⟩ := hΦ
        replace o9 := o9.adv hA (by decide)
        refine ⟨_, hw, ⟨o9, (fun h => absurd h (by decide)), (fun _ => o2)⟩, ?_⟩
        · exact PassL.cons (fun h => h) <| PassL.cons (fun h => h) <| PassL.cons (fun h => h) <| PassL.cons (fun h => h) <| PassL.cons (fun h => h) <| PassL.cons (fun h => h) <| PassL.cons (fun h => by obtain ⟨_, ht, ad29, h, hn29, hl29⟩ := h; exact ⟨_, ht, _, h, hn29, (fun h => absurd h (by decide))⟩) <| PassL.cons (fun h => by obtain ⟨_, ht, h, hn29⟩ := h; exact ⟨_, ht, h, hn29⟩) <| PassL.cons (fun h => h) <| PassL.cons (fun h => h) <| PassL.cons (fun h => by obtain ⟨_, ht, ad31, h, hn31, hl31⟩ := h; exact ⟨_, ht, _, h, hn31, (fun h => absurd h (by decide))⟩) <| PassL.cons (fun h => by obtain ⟨_, ht, h, hn31⟩ := h; exact ⟨_, ht, h, hn31⟩) <| PassL.cons (fun h => by obtain ⟨_, ht, ad32, h, hn32, hl32⟩ := h; exact ⟨_, ht, _, h, hn32, (fun h => absurd h (by decide))⟩) <| PassL.here <| PassL.nil
    intro ρ w a hw hG hf hd
    obtain ⟨o9, o2x, o2y⟩ := hG
    obtain o2 := o2y (by decide)
    obtain ⟨_, hf, rfl⟩ := got (hd 2 (by decide) (by kernel_rfl)) hf
    obtain ⟨_, hf, rfl⟩ := got (hd 3 (by decide) (by kernel_rfl)) hf
    obtain ⟨_, hf, ⟨rfl, hn31⟩⟩ := got (hd 11 (by decide) (by kernel_rfl)) hf
    obtain ⟨hc33, hF⟩ := of_guard hF
    obtain ⟨ad34, hl34⟩ := Ow.ce (d := fRef f6) o2.out 0 hc33.1 hc33.2
    have hn34 := o2.lt_gl hc33.1 hc33.2
    refine s_ hf (r_idx Try.underlying24 sz36 hf rfl hl34.at_ rfl hc33.1 hc33.2) fun a hf => ?_
    refine sk_ hf (r_gset (p := w64 (s21 + x26)) hw o2 hn31 hc33.1 hc33.2 hl34.at_ ty36 rfl hf rfl rfl) fun a w hf hΦ => ?_
    obtain ⟨hw, hA, o2⟩ := hΦ
    replace o9 := o9.adv hA (by decide)
    refine c_nt <| c_seq ?_
    obtain ⟨hc35, hF⟩ := of_guard hF
    obtain ⟨hc37, hF⟩ := of_guard hF
    replace hf : Fr 172 a [(0, vI a0), (5, vI (a1.length : Int)), (6, vv5), (10, .pointer (some ((⟨g9, 0, none⟩ : Addr).add 0))), (43, vI (a1.length : Int)), (44, vI s21)] := hf.sub ⟨rfl, rfl, rfl, rfl, rfl, rfl, trivial⟩
    refine c_drawL (h := 8) mixed (by kernel_rfl) (by kernel_rfl) (fun ρ w => Gd fI64 2 36 ρ w w0.heap.size 2 vv5 f6 ((s22.set s21.toNat (gl 0 s22 (w64 (s21 + x26)))).set (w64 (s21 + x26)).toNat (gl 0 s22 s21)) s23 ∧ Va ρ w 9 g9 3 ([vI s21])) ?_ [fun ρ w v => vI a0 = v, fun ρ w v => vv5 = v, fun ρ w v => vI s21 = v, fun ρ w v => ∃ ad36, .pointer (some (ad36.add (s21.toNat * 1))) = v ∧ (gl 0 ((s22.set s21.toNat (gl 0 s22 (w64 (s21 + x26)))).set (w64 (s21 + x26)).toNat (gl 0 s22 s21)) s21) < s23.length ∧ Ce ρ w 2 vv5 (((s22.set s21.toNat (gl 0 s22 (w64 (s21 + x26)))).set (w64 (s21 + x26)).toNat (gl 0 s22 s21)).length) ad36 (s21.toNat * 1) ([(f6 (gl 0 ((s22.set s21.toNat (gl 0 s22 (w64 (s21 + x26)))).set (w64 (s21 + x26)).toNat (gl 0 s22 s21)) s21)).1]), fun ρ w v => (f6 (gl 0 ((s22.set s21.toNat (gl 0 s22 (w64 (s21 + x26)))).set (w64 (s21 + x26)).toNat (gl 0 s22 s21)) s21)).1 = v ∧ (gl 0 ((s22.set s21.toNat (gl 0 s22 (w64 (s21 + x26)))).set (w64 (s21 + x26)).toNat (gl 0 s22 s21)) s21) < s23.length, fun ρ w v => vI s21 = v, fun ρ w v => ∃ ad38, .pointer (some (ad38.add (s21.toNat * 1))) = v ∧ Ce ρ w (lab 2 (gl 0 ((s22.set s21.toNat (gl 0 s22 (w64 (s21 + x26)))).set (w64 (s21 + x26)).toNat (gl 0 s22 s21)) s21)) ((f6 (gl 0 ((s22.set s21.toNat (gl 0 s22 (w64 (s21 + x26)))).set (w64 (s21 + x26)).toNat (gl 0 s22 s21)) s21)).1) ((s23.getD (gl 0 ((s22.set s21.toNat (gl 0 s22 (w64 (s21 + x26)))).set (w64 (s21 + x26)).toNat (gl 0 s22 s21)) s21) []).length) ad38 (s21.toNat * 1) (fI64.enc (gl 0 (s23.getD (gl 0 ((s22.set s21.toNat (gl 0 s22 (w64 (s21 + x26)))).set (w64 (s21 + x26)).toNat (gl 0 s22 s21)) s21) []) s21)), fun ρ w v => vI (gl 0 (s23.getD (gl 0 ((s22.set s21.toNat (gl 0 s22 (w64 (s21 + x26)))).set (w64 (s21 + x26)).toNat (gl 0 s22 s21)) s21) []) s21) = v] ?_ hw ⟨o2, o9⟩ hf ?_ ?_
    · intro ρ w ρ' w' hE hG
      obtain ⟨o2, o9⟩ := hG
      exact ⟨o2.ext hE, o9.ext hE⟩
    · exact LastsL.cons (fun _ _ _ _ _ _ h => h) <| LastsL.cons (fun _ _ _ _ _ _ h => h) <| LastsL.cons (fun _ _ _ _ _ _ h => h) <| LastsL.cons (fun _ _ _ _ _ hE h => by obtain ⟨ad36, h, hn36, hl36⟩ := h; exact ⟨_, h, hn36, hl36.ext hE⟩) <| LastsL.cons (fun _ _ _ _ _ hE h => by obtain ⟨h, hn36⟩ := h; exact ⟨h, hn36⟩) <| LastsL.cons (fun _ _ _ _ _ _ h => h) <| LastsL.cons (fun _ _ _ _ _ hE h => by obtain ⟨ad38, h, hl38⟩ := h; exact ⟨_, h, hl38.ext hE⟩) <| LastsL.cons (fun _ _ _ _ _ _ h => h) <| LastsL.nil
    · refine StepsB.cons ?_ <| StepsB.cons ?_ <| StepsB.cons ?_ <| StepsB.cons ?_ <| StepsB.cons ?_ <| StepsB.cons ?_ <| StepsB.cons ?_ <| StepsB.cons ?_ <| StepsB.nil
      · intro ρ w a hw hG hf hd K hK
        obtain ⟨o2, o9⟩ := hG
        exact dv_ hK hw (wn rfl) (r_move hf rfl) rfl
      · intro ρ w a hw hG hf hd K hK
        obtain ⟨o2, o9⟩ := hG
        exact dv_ hK hw (wn rfl) (r_move hf rfl) rfl
      · intro ρ w a hw hG hf hd K hK
        obtain ⟨o2, o9⟩ := hG
        exact dv_ hK hw (wn rfl) (r_load_cell ty3 hf rfl o9.cl) rfl
      · intro ρ w a hw hG hf hd K hK
        obtain ⟨o2, o9⟩ := hG
        obtain ⟨_, hf, rfl⟩ := got (hd 1 (by kernel_rfl)) hf
        obtain ⟨_, hf, rfl⟩ := got (hd 2 (by kernel_rfl)) hf
        obtain ⟨ad36, hl36⟩ := Ow.ce (d := fRef f6) o2.out 0 hc35.1 hc35.2
        have hn36 := o2.lt_gl hc35.1 hc35.2
        exact dv_ hK hw (wn rfl) (r_idx Try.underlying24 sz36 hf rfl hl36.at_ rfl hc35.1 hc35.2) (ex_ <| an_ rfl <| an_ hn36 <| hl36)
      · intro ρ w a hw hG hf hd K hK
        obtain ⟨o2, o9⟩ := hG
        obtain ⟨_, hf, ⟨ad36, rfl, hn36, hl36⟩⟩ := got (hd 3 (by kernel_rfl)) hf
        exact dv_ hK hw (wn rfl) (r_load_cell ty36 hf rfl hl36.co.cl) (an_ rfl <| hn36)
      · intro ρ w a hw hG hf hd K hK
        obtain ⟨o2, o9⟩ := hG
        exact dv_ hK hw (wn rfl) (r_load_cell ty3 hf rfl o9.cl) rfl
      · intro ρ w a hw hG hf hd K hK
        obtain ⟨o2, o9⟩ := hG
        obtain ⟨_, hf, ⟨rfl, hn36⟩⟩ := got (hd 4 (by kernel_rfl)) hf
        obtain ⟨_, hf, rfl⟩ := got (hd 5 (by kernel_rfl)) hf
        obtain ⟨ad38, hl38⟩ := Ow.ce (d := fI64) (o2.rowAt hn36) 0 hc37.1 hc37.2
        exact dv_ hK hw (wn rfl) (r_idx Try.underlying36 sz2 hf rfl hl38.at_ rfl hc37.1 hc37.2) (ex_ <| an_ rfl <| hl38)
      · intro ρ w a hw hG hf hd K hK
        obtain ⟨o2, o9⟩ := hG
        obtain ⟨_, hf, ⟨ad38, rfl, hl38⟩⟩ := got (hd 6 (by kernel_rfl)) hf
        exact dv_ hK hw (wn rfl) (r_load_cell ty2 hf rfl hl38.co.cl) rfl
    intro ρ w a hw hG hf hd
    obtain ⟨o2, o9⟩ := hG
    obtain ⟨_, hf, rfl⟩ := got (hd 0 (by decide)) hf
    obtain ⟨_, hf, rfl⟩ := got (hd 7 (by decide)) hf
    obtain ⟨x39, hx40, hF⟩ := of_bind hF
    refine st_fn 23 hw hf rfl rfl (by decide) (r_fn en110 hf rfl) (impl_inverse_ok  hx40) fun a v w ρ hf hw hE hN hΦ => ?_
    obtain rfl := hΦ
    replace o2 := o2.ext hE
    replace o9 := o9.ext hE
    refine s_ hf (r_assign hf rfl) fun a hf => ?_
    refine c_nt <| c_seq <| c_seq <| c_region ?_
    refine s_ hf (r_move hf rfl) fun a hf => ?_
    refine s_ hf (r_load_cell ty3 hf rfl o9.cl) fun a hf => ?_
    obtain ⟨ad41, hl41⟩ := Ow.ce (d := fRef f6) o2.out 0 hc35.1 hc35.2
    have hn41 := o2.lt_gl hc35.1 hc35.2
    refine s_ hf (r_idx Try.underlying24 sz36 hf rfl hl41.at_ rfl hc35.1 hc35.2) fun a hf => ?_
    refine s_ hf (r_load_cell ty36 hf rfl hl41.co.cl) fun a hf => ?_
    refine s_ hf (r_len Try.underlying36 ((o2.rowAt hn41).ro) hf rfl) fun a hf => ?_
    refine s_ hf (r_move hf rfl) fun a hf => ?_
    refine c_nt ?_
    obtain ⟨ol42, ho42, hG42⟩ := of_bind hF
    clear hF
    refine c_block (c_loop (id := 4) (fun s => impl_inverted_l42 a0 s21 s22 s23 x26 x39 s.1 s.2) (fun (s : Int × (List (List Int))) a w => match s with | (s43, s44) => ∃ ρ, Wd w0 ρ w ∧ Fr 172 a [(0, vI a0), (5, vI (a1.length : Int)), (6, vv5), (10, .pointer (some ((⟨g9, 0, none⟩ : Addr).add 0))), (12, vI x39), (43, vI (a1.length : Int)), (44, vI s21), (81, vI ((s23.getD (gl 0 ((s22.set s21.toNat (gl 0 s22 (w64 (s21 + x26)))).set (w64 (s21 + x26)).toNat (gl 0 s22 s21)) s21) []).length : Int)), (82, vI s43)] ∧ Gd fI64 2 36 ρ w w0.heap.size 2 vv5 f6 ((s22.set s21.toNat (gl 0 s22 (w64 (s21 + x26)))).set (w64 (s21 + x26)).toNat (gl 0 s22 s21)) s44 ∧ Va ρ w 9 g9 3 ([vI s21])) (fun (s : Int × (List (List Int))) a w => match s with | (s43, s44) => ∃ ρ, Wd w0 ρ w ∧ Fr 172 a [(0, vI a0), (5, vI (a1.length : Int)), (6, vv5), (10, .pointer (some ((⟨g9, 0, none⟩ : Addr).add 0))), (43, vI (a1.length : Int)), (44, vI s21)] ∧ Gd fI64 2 36 ρ w w0.heap.size 2 vv5 f6 ((s22.set s21.toNat (gl 0 s22 (w64 (s21 + x26)))).set (w64 (s21 + x26)).toNat (gl 0 s22 s21)) s44 ∧ Va ρ w 9 g9 3 ([vI s21])) ho42 ⟨_, hw, hf.sub ⟨rfl, rfl, rfl, rfl, rfl, rfl, rfl, rfl, rfl, trivial⟩, o2, o9⟩ ?_ ?_)
    · rintro ⟨s43, s44⟩ lr a w ⟨ρ, hw, hf, o2, o9⟩ hF
      replace hF : impl_inverted_l42 a0 s21 s22 s23 x26 x39 s43 s44 = some lr := hF
      unfold impl_inverted_l42 at hF
      refine c_seq <| c_region ?_
      refine s_ hf (r_lss hf rfl rfl) fun a hf => ?_
      refine c_nt <| c_seq ?_
      rcases of_ite hF with ⟨hb45, hF⟩ | ⟨hb45, hF⟩
      rotate_left
      · refine c_iff hf rfl hb45 <| c_exit <| x_then ?_
        obtain rfl := Option.some.inj hF
        exact Rnd.stops ⟨_, hw, hf.sub ⟨rfl, rfl, rfl, rfl, rfl, rfl, trivial⟩, o2, o9⟩
      refine c_ift hf rfl hb45 <| c_skip <| n_then <| c_seq <| c_block <| c_seq <| c_region ?_
      refine s_ hf (r_move hf rfl) fun a hf => ?_
      refine s_ hf (r_assign hf rfl) fun a hf => ?_
      refine c_nt ?_
      obtain ⟨hc48, hF⟩ := of_guard hF
      obtain ⟨hc50, hF⟩ := of_guard hF
      replace hf : Fr 172 a [(0, vI a0), (5, vI (a1.length : Int)), (6, vv5), (10, .pointer (some ((⟨g9, 0, none⟩ : Addr).add 0))), (12, vI x39), (13, vI s43), (43, vI (a1.length : Int)), (44, vI s21), (81, vI ((s23.getD (gl 0 ((s22.set s21.toNat (gl 0 s22 (w64 (s21 + x26)))).set (w64 (s21 + x26)).toNat (gl 0 s22 s21)) s21) []).length : Int)), (82, vI s43)] := hf.sub ⟨rfl, rfl, rfl, rfl, rfl, rfl, rfl, rfl, rfl, rfl, trivial⟩
      refine c_drawL (h := 16) mixed (by kernel_rfl) (by kernel_rfl) (fun ρ w => Gd fI64 2 36 ρ w w0.heap.size 2 vv5 f6 ((s22.set s21.toNat (gl 0 s22 (w64 (s21 + x26)))).set (w64 (s21 + x26)).toNat (gl 0 s22 s21)) s44 ∧ Va ρ w 9 g9 3 ([vI s21])) ?_ [fun ρ w v => vv5 = v, fun ρ w v => vI s21 = v, fun ρ w v => ∃ ad46, .pointer (some (ad46.add (s21.toNat * 1))) = v ∧ (gl 0 ((s22.set s21.toNat (gl 0 s22 (w64 (s21 + x26)))).set (w64 (s21 + x26)).toNat (gl 0 s22 s21)) s21) < s44.length ∧ Ce ρ w 2 vv5 (((s22.set s21.toNat (gl 0 s22 (w64 (s21 + x26)))).set (w64 (s21 + x26)).toNat (gl 0 s22 s21)).length) ad46 (s21.toNat * 1) ([(f6 (gl 0 ((s22.set s21.toNat (gl 0 s22 (w64 (s21 + x26)))).set (w64 (s21 + x26)).toNat (gl 0 s22 s21)) s21)).1]), fun ρ w v => (f6 (gl 0 ((s22.set s21.toNat (gl 0 s22 (w64 (s21 + x26)))).set (w64 (s21 + x26)).toNat (gl 0 s22 s21)) s21)).1 = v ∧ (gl 0 ((s22.set s21.toNat (gl 0 s22 (w64 (s21 + x26)))).set (w64 (s21 + x26)).toNat (gl 0 s22 s21)) s21) < s44.length, fun ρ w v => vI s43 = v, fun ρ w v => vv5 = v, fun ρ w v => vI s21 = v, fun ρ w v => ∃ ad47, .pointer (some (ad47.add (s21.toNat * 1))) = v ∧ (gl 0 ((s22.set s21.toNat (gl 0 s22 (w64 (s21 + x26)))).set (w64 (s21 + x26)).toNat (gl 0 s22 s21)) s21) < s44.length ∧ Ce ρ w 2 vv5 (((s22.set s21.toNat (gl 0 s22 (w64 (s21 + x26)))).set (w64 (s21 + x26)).toNat (gl 0 s22 s21)).length) ad47 (s21.toNat * 1) ([(f6 (gl 0 ((s22.set s21.toNat (gl 0 s22 (w64 (s21 + x26)))).set (w64 (s21 + x26)).toNat (gl 0 s22 s21)) s21)).1]), fun ρ w v => (f6 (gl 0 ((s22.set s21.toNat (gl 0 s22 (w64 (s21 + x26)))).set (w64 (s21 + x26)).toNat (gl 0 s22 s21)) s21)).1 = v ∧ (gl 0 ((s22.set s21.toNat (gl 0 s22 (w64 (s21 + x26)))).set (w64 (s21 + x26)).toNat (gl 0 s22 s21)) s21) < s44.length, fun ρ w v => vI s43 = v, fun ρ w v => ∃ ad49, .pointer (some (ad49.add (s43.toNat * 1))) = v ∧ Ce ρ w (lab 2 (gl 0 ((s22.set s21.toNat (gl 0 s22 (w64 (s21 + x26)))).set (w64 (s21 + x26)).toNat (gl 0 s22 s21)) s21)) ((f6 (gl 0 ((s22.set s21.toNat (gl 0 s22 (w64 (s21 + x26)))).set (w64 (s21 + x26)).toNat (gl 0 s22 s21)) s21)).1) ((s44.getD (gl 0 ((s22.set s21.toNat (gl 0 s22 (w64 (s21 + x26)))).set (w64 (s21 + x26)).toNat (gl 0 s22 s21)) s21) []).length) ad49 (s43.toNat * 1) (fI64.enc (gl 0 (s44.getD (gl 0 ((s22.set s21.toNat (gl 0 s22 (w64 (s21 + x26)))).set (w64 (s21 + x26)).toNat (gl 0 s22 s21)) s21) []) s43)), fun ρ w v => vI (gl 0 (s44.getD (gl 0 ((s22.set s21.toNat (gl 0 s22 (w64 (s21 + x26)))).set (w64 (s21 + x26)).toNat (gl 0 s22 s21)) s21) []) s43) = v, fun ρ w v => vI x39 = v, fun ρ w v => vI (w64 ((gl 0 (s44.getD (gl 0 ((s22.set s21.toNat (gl 0 s22 (w64 (s21 + x26)))).set (w64 (s21 + x26)).toNat (gl 0 s22 s21)) s21) []) s43) * x39)) = v, fun ρ w v => vI a0 = v, fun ρ w v => vI ((w64 ((gl 0 (s44.getD (gl 0 ((s22.set s21.toNat (gl 0 s22 (w64 (s21 + x26)))).set (w64 (s21 + x26)).toNat (gl 0 s22 s21)) s21) []) s43) * x39)).tmod a0) = v] ?_ hw ⟨o2, o9⟩ hf ?_ ?_
      · intro ρ w ρ' w' hE hG
        obtain ⟨o2, o9⟩ := hG
        exact ⟨o2.ext hE, o9.ext hE⟩
      · exact LastsL.cons (fun _ _ _ _ _ _ h => h) <| LastsL.cons (fun _ _ _ _ _ _ h => h) <| LastsL.cons (fun _ _ _ _ _ hE h => by obtain ⟨ad46, h, hn46, hl46⟩ := h; exact ⟨_, h, hn46, hl46.ext hE⟩) <| LastsL.cons (fun _ _ _ _ _ hE h => by obtain ⟨h, hn46⟩ := h; exact ⟨h, hn46⟩) <| LastsL.cons (fun _ _ _ _ _ _ h => h) <| LastsL.cons (fun _ _ _ _ _ _ h => h) <| LastsL.cons (fun _ _ _ _ _ _ h => h) <| LastsL.cons (fun _ _ _ _ _ hE h => by obtain ⟨ad47, h, hn47, hl47⟩ := h; exact ⟨_, h, hn47, hl47.ext hE⟩) <| LastsL.cons (fun _ _ _ _ _ hE h => by obtain ⟨h, hn47⟩ := h; exact ⟨h, hn47⟩) <| LastsL.cons (fun _ _ _ _ _ _ h => h) <| LastsL.cons (fun _ _ _ _ _ hE h => by obtain ⟨ad49, h, hl49⟩ := h; exact ⟨_, h, hl49.ext hE⟩) <| LastsL.cons (fun _ _ _ _ _ _ h => h) <| LastsL.cons (fun _ _ _ _ _ _ h => h) <| LastsL.cons (fun _ _ _ _ _ _ h => h) <| LastsL.cons (fun _ _ _ _ _ _ h => h) <| LastsL.cons (fun _ _ _ _ _ _ h => h) <| LastsL.nil
      · refine StepsB.cons ?_ <| StepsB.cons ?_ <| StepsB.cons ?_ <| StepsB.cons ?_ <| StepsB.cons ?_ <| StepsB.cons ?_ <| StepsB.cons ?_ <| StepsB.cons ?_ <| StepsB.cons ?_ <| StepsB.cons ?_ <| StepsB.cons ?_ <| StepsB.cons ?_ <| StepsB.cons ?_ <| StepsB.cons ?_ <| StepsB.cons ?_ <| StepsB.cons ?_ <| StepsB.nil
        · intro ρ w a hw hG hf hd K hK
          obtain ⟨o2, o9⟩ := hG
          exact dv_ hK hw (wn rfl) (r_move hf rfl) rfl
        · intro ρ w a hw hG hf hd K hK
          obtain ⟨o2, o9⟩ := hG
          exact dv_ hK hw (wn rfl) (r_load_cell ty3 hf rfl o9.cl) rfl
        · intro ρ w a hw hG hf hd K hK
          obtain ⟨o2, o9⟩ := hG
          obtain ⟨_, hf, rfl⟩ := got (hd 0 (by kernel_rfl)) hf
          obtain ⟨_, hf, rfl⟩ := got (hd 1 (by kernel_rfl)) hf
          obtain ⟨ad46, hl46⟩ := Ow.ce (d := fRef f6) o2.out 0 hc35.1 hc35.2
          have hn46 := o2.lt_gl hc35.1 hc35.2
          exact dv_ hK hw (wn rfl) (r_idx Try.underlying24 sz36 hf rfl hl46.at_ rfl hc35.1 hc35.2) (ex_ <| an_ rfl <| an_ hn46 <| hl46)
        · intro ρ w a hw hG hf hd K hK
          obtain ⟨o2, o9⟩ := hG
          obtain ⟨_, hf, ⟨ad46, rfl, hn46, hl46⟩⟩ := got (hd 2 (by kernel_rfl)) hf
          exact dv_ hK hw (wn rfl) (r_load_cell ty36 hf rfl hl46.co.cl) (an_ rfl <| hn46)
        · intro ρ w a hw hG hf hd K hK
          obtain ⟨o2, o9⟩ := hG
          exact dv_ hK hw (wn rfl) (r_move hf rfl) rfl
        · intro ρ w a hw hG hf hd K hK
          obtain ⟨o2, o9⟩ := hG
          exact dv_ hK hw (wn rfl) (r_move hf rfl) rfl
        · intro ρ w a hw hG hf hd K hK
          obtain ⟨o2, o9⟩ := hG
          exact dv_ hK hw (wn rfl) (r_load_cell ty3 hf rfl o9.cl) rfl
        · intro ρ w a hw hG hf hd K hK
          obtain ⟨o2, o9⟩ := hG
          obtain ⟨_, hf, rfl⟩ := got (hd 5 (by kernel_rfl)) hf
          obtain ⟨_, hf, rfl⟩ := got (hd 6 (by kernel_rfl)) hf
          obtain ⟨ad47, hl47⟩ := Ow.ce (d := fRef f6) o2.out 0 hc35.1 hc35.2
          have hn47 := o2.lt_gl hc35.1 hc35.2
          exact dv_ hK hw (wn rfl) (r_idx Try.underlying24 sz36 hf rfl hl47.at_ rfl hc35.1 hc35.2) (ex_ <| an_ rfl <| an_ hn47 <| hl47)
        · intro ρ w a hw hG hf hd K hK
          obtain ⟨o2, o9⟩ := hG
          obtain ⟨_, hf, ⟨ad47, rfl, hn47, hl47⟩⟩ := got (hd 7 (by kernel_rfl)) hf
          exact dv_ hK hw (wn rfl) (r_load_cell ty36 hf rfl hl47.co.cl) (an_ rfl <| hn47)
        · intro ρ w a hw hG hf hd K hK
          obtain ⟨o2, o9⟩ := hG
          exact dv_ hK hw (wn rfl) (r_move hf rfl) rfl
        · intro ρ w a hw hG hf hd K hK
          obtain ⟨o2, o9⟩ := hG
          obtain ⟨_, hf, ⟨rfl, hn47⟩⟩ := got (hd 8 (by kernel_rfl)) hf
          obtain ⟨_, hf, rfl⟩ := got (hd 9 (by kernel_rfl)) hf
          obtain ⟨ad49, hl49⟩ := Ow.ce (d := fI64) (o2.rowAt hn47) 0 hc48.1 hc48.2
          exact dv_ hK hw (wn rfl) (r_idx Try.underlying36 sz2 hf rfl hl49.at_ rfl hc48.1 hc48.2) (ex_ <| an_ rfl <| hl49)
        · intro ρ w a hw hG hf hd K hK
          obtain ⟨o2, o9⟩ := hG
          obtain ⟨_, hf, ⟨ad49, rfl, hl49⟩⟩ := got (hd 10 (by kernel_rfl)) hf
          exact dv_ hK hw (wn rfl) (r_load_cell ty2 hf rfl hl49.co.cl) rfl
        · intro ρ w a hw hG hf hd K hK
          obtain ⟨o2, o9⟩ := hG
          exact dv_ hK hw (wn rfl) (r_move hf rfl) rfl
        · intro ρ w a hw hG hf hd K hK
          obtain ⟨o2, o9⟩ := hG
          obtain ⟨_, hf, rfl⟩ := got (hd 11 (by kernel_rfl)) hf
          obtain ⟨_, hf, rfl⟩ := got (hd 12 (by kernel_rfl)) hf
          exact dv_ hK hw (wn rfl) (r_mul hf rfl rfl) rfl
        · intro ρ w a hw hG hf hd K hK
          obtain ⟨o2, o9⟩ := hG
          exact dv_ hK hw (wn rfl) (r_move hf rfl) rfl
        · intro ρ w a hw hG hf hd K hK
          obtain ⟨o2, o9⟩ := hG
          obtain ⟨_, hf, rfl⟩ := got (hd 13 (by kernel_rfl)) hf
          obtain ⟨_, hf, rfl⟩ := got (hd 14 (by kernel_rfl)) hf
          exact dv_ hK hw (wn rfl) (r_rem hf rfl rfl hc50) rfl
      intro ρ w a hw hG hf hd
      obtain ⟨o2, o9⟩ := hG
      obtain ⟨_, hf, ⟨rfl, hn46⟩⟩ := got (hd 3 (by decide)) hf
      obtain ⟨_, hf, rfl⟩ := got (hd 4 (by decide)) hf
      obtain ⟨_, hf, rfl⟩ := got (hd 15 (by decide)) hf
      obtain ⟨ad51, hl51⟩ := Ow.ce (d := fI64) (o2.rowAt hn46) 0 hc48.1 hc48.2
      refine s_ hf (r_idx Try.underlying36 sz2 hf rfl hl51.at_ rfl hc48.1 hc48.2) fun a hf => ?_
      refine sk_ hf (r_gcell (p := s43) (b := (w64 ((gl 0 (s44.getD (gl 0 ((s22.set s21.toNat (gl 0 s22 (w64 (s21 + x26)))).set (w64 (s21 + x26)).toNat (gl 0 s22 s21)) s21) []) s43) * x39)).tmod a0) 0 hw o2 hc48.1 hc48.2 (Lens.id _) hl51.at_ ty2 (by first | rfl | exact Nat.add_assoc _ _ _ | (simp only [Nat.add_assoc]; rfl)) hf rfl rfl rfl) fun a w hf hΦ => ?_
      obtain ⟨hw, hA, o2⟩ := hΦ
      replace o9 := o9.adv hA (by unfold lab; omega)
      replace hn46 : (gl 0 ((s22.set s21.toNat (gl 0 s22 (w64 (s21 + x26)))).set (w64 (s21 + x26)).toNat (gl 0 s22 s21)) s21) < (s44.set (gl 0 ((s22.set s21.toNat (gl 0 s22 (w64 (s21 + x26)))).set (w64 (s21 + x26)).toNat (gl 0 s22 s21)) s21) ((s44.getD (gl 0 ((s22.set s21.toNat (gl 0 s22 (w64 (s21 + x26)))).set (w64 (s21 + x26)).toNat (gl 0 s22 s21)) s21) []).set s43.toNat ((w64 ((gl 0 (s44.getD (gl 0 ((s22.set s21.toNat (gl 0 s22 (w64 (s21 + x26)))).set (w64 (s21 + x26)).toNat (gl 0 s22 s21)) s21) []) s43) * x39)).tmod a0))).length := by simp only [List.length_append, List.length_set]; omega
      refine c_nil <| n_block <| n_then <| c_region ?_
      refine s_ hf (r_add hf rfl rfl) fun a hf => ?_
      refine s_ hf (r_move hf rfl) fun a hf => ?_
      refine c_nil ?_
      obtain rfl := Option.some.inj hF
      exact Rnd.goes ⟨_, hw, hf.sub ⟨rfl, rfl, rfl, rfl, rfl, rfl, rfl, rfl, rfl, trivial⟩, o2, o9⟩
    rintro ⟨s43, s44⟩ a w hs ⟨ρ, hw, hf, o2, o9⟩
    subst hs
    have hF := hG42
    dsimp only at hF
    refine x_block <| n_then <| c_seq <| c_region ?_
    refine s_ hf (r_move hf rfl) fun a hf => ?_
    refine s_ hf (r_len Try.underlying24 o2.out.ro hf rfl) fun a hf => ?_
    refine s_ hf (r_move hf rfl) fun a hf => ?_
    refine c_nt ?_
    obtain ⟨ol52, ho52, hG52⟩ := of_bind hF
    clear hF
    refine c_block (c_loop (id := 6) (fun s => impl_inverted_l52 a0 s21 s22 x26 s.1 s.2) (fun (s : Int × (List (List Int))) a w => match s with | (s53, s54) => ∃ ρ, Wd w0 ρ w ∧ Fr 172 a [(0, vI a0), (5, vI (a1.length : Int)), (6, vv5), (10, .pointer (some ((⟨g9, 0, none⟩ : Addr).add 0))), (43, vI (a1.length : Int)), (44, vI s21), (104, vI (((s22.set s21.toNat (gl 0 s22 (w64 (s21 + x26)))).set (w64 (s21 + x26)).toNat (gl 0 s22 s21)).length : Int)), (105, vI s53)] ∧ Gd fI64 2 36 ρ w w0.heap.size 2 vv5 f6 ((s22.set s21.toNat (gl 0 s22 (w64 (s21 + x26)))).set (w64 (s21 + x26)).toNat (gl 0 s22 s21)) s54 ∧ Va ρ w 9 g9 3 ([vI s21])) (fun (s : Int × (List (List Int))) a w => match s with | (s53, s54) => ∃ ρ, Wd w0 ρ w ∧ Fr 172 a [(0, vI a0), (5, vI (a1.length : Int)), (6, vv5), (43, vI (a1.length : Int)), (44, vI s21)] ∧ Gd fI64 2 36 ρ w w0.heap.size 2 vv5 f6 ((s22.set s21.toNat (gl 0 s22 (w64 (s21 + x26)))).set (w64 (s21 + x26)).toNat (gl 0 s22 s21)) s54) ho52 ⟨_, hw, hf.sub ⟨rfl, rfl, rfl, rfl, rfl, rfl, rfl, rfl, trivial⟩, o2, o9⟩ ?_ ?_)
    · rintro ⟨s53, s54⟩ lr a w ⟨ρ, hw, hf, o2, o9⟩ hF
      replace hF : impl_inverted_l52 a0 s21 s22 x26 s53 s54 = some lr := hF
      unfold impl_inverted_l52 at hF
      refine c_seq <| c_region ?_
      refine s_ hf (r_lss hf rfl rfl) fun a hf => ?_
      refine c_nt <| c_seq ?_
      rcases of_ite hF with ⟨hb55, hF⟩ | ⟨hb55, hF⟩
      rotate_left
      · refine c_iff hf rfl hb55 <| c_exit <| x_then ?_
        obtain rfl := Option.some.inj hF
        exact Rnd.stops ⟨_, hw, hf.sub ⟨rfl, rfl, rfl, rfl, rfl, trivial⟩, o2⟩
      refine c_ift hf rfl hb55 <| c_skip <| n_then <| c_seq <| c_block <| c_seq <| c_region ?_
      refine s_ hf (r_move hf rfl) fun a hf => ?_
      refine s_ hf (r_assign hf rfl) fun a hf => ?_
      refine c_nt <| c_seq <| c_seq <| c_region ?_
      refine s_ hf (r_move hf rfl) fun a hf => ?_
      refine s_ hf (r_load_cell ty3 hf rfl o9.cl) fun a hf => ?_
      refine s_ hf (r_eql hf rfl rfl) fun a hf => ?_
      refine c_nt ?_
      rcases of_ite hF with ⟨hb56, hF⟩ | ⟨hb56, hF⟩
      · refine c_ift hf rfl hb56 <| c_exit <| x_then <| x_block <| n_then <| c_region ?_
        refine s_ hf (r_add hf rfl rfl) fun a hf => ?_
        refine s_ hf (r_move hf rfl) fun a hf => ?_
        refine c_nil ?_
        obtain rfl := Option.some.inj hF
        exact Rnd.goes ⟨_, hw, hf.sub ⟨rfl, rfl, rfl, rfl, rfl, rfl, rfl, rfl, trivial⟩, o2, o9⟩
      refine c_iff hf rfl hb56 <| c_skip <| n_then <| c_seq ?_
      obtain ⟨hc57, hF⟩ := of_guard hF
      replace hf : Fr 172 a [(0, vI a0), (5, vI (a1.length : Int)), (6, vv5), (10, .pointer (some ((⟨g9, 0, none⟩ : Addr).add 0))), (14, vI s53), (43, vI (a1.length : Int)), (44, vI s21), (104, vI (((s22.set s21.toNat (gl 0 s22 (w64 (s21 + x26)))).set (w64 (s21 + x26)).toNat (gl 0 s22 s21)).length : Int)), (105, vI s53)] := hf.sub ⟨rfl, rfl, rfl, rfl, rfl, rfl, rfl, rfl, rfl, trivial⟩
      refine c_drawL (h := 5) mixed (by kernel_rfl) (by kernel_rfl) (fun ρ w => Gd fI64 2 36 ρ w w0.heap.size 2 vv5 f6 ((s22.set s21.toNat (gl 0 s22 (w64 (s21 + x26)))).set (w64 (s21 + x26)).toNat (gl 0 s22 s21)) s54 ∧ Va ρ w 9 g9 3 ([vI s21])) ?_ [fun ρ w v => vv5 = v, fun ρ w v => vI s53 = v, fun ρ w v => ∃ ad58, .pointer (some (ad58.add (s53.toNat * 1))) = v ∧ (gl 0 ((s22.set s21.toNat (gl 0 s22 (w64 (s21 + x26)))).set (w64 (s21 + x26)).toNat (gl 0 s22 s21)) s53) < s54.length ∧ Ce ρ w 2 vv5 (((s22.set s21.toNat (gl 0 s22 (w64 (s21 + x26)))).set (w64 (s21 + x26)).toNat (gl 0 s22 s21)).length) ad58 (s53.toNat * 1) ([(f6 (gl 0 ((s22.set s21.toNat (gl 0 s22 (w64 (s21 + x26)))).set (w64 (s21 + x26)).toNat (gl 0 s22 s21)) s53)).1]), fun ρ w v => (f6 (gl 0 ((s22.set s21.toNat (gl 0 s22 (w64 (s21 + x26)))).set (w64 (s21 + x26)).toNat (gl 0 s22 s21)) s53)).1 = v ∧ (gl 0 ((s22.set s21.toNat (gl 0 s22 (w64 (s21 + x26)))).set (w64 (s21 + x26)).toNat (gl 0 s22 s21)) s53) < s54.length, fun ρ w v => vI s21 = v] ?_ hw ⟨o2, o9⟩ hf ?_ ?_
      · intro ρ w ρ' w' hE hG
        obtain ⟨o2, o9⟩ := hG
        exact ⟨o2.ext hE, o9.ext hE⟩
      · exact LastsL.cons (fun _ _ _ _ _ _ h => h) <| LastsL.cons (fun _ _ _ _ _ _ h => h) <| LastsL.cons (fun _ _ _ _ _ hE h => by obtain ⟨ad58, h, hn58, hl58⟩ := h; exact ⟨_, h, hn58, hl58.ext hE⟩) <| LastsL.cons (fun _ _ _ _ _ hE h => by obtain ⟨h, hn58⟩ := h; exact ⟨h, hn58⟩) <| LastsL.cons (fun _ _ _ _ _ _ h => h) <| LastsL.nil
      · refine StepsB.cons ?_ <| StepsB.cons ?_ <| StepsB.cons ?_ <| StepsB.cons ?_ <| StepsB.cons ?_ <| StepsB.nil
        · intro ρ w a hw hG hf hd K hK
          obtain ⟨o2, o9⟩ := hG
          exact dv_ hK hw (wn rfl) (r_move hf rfl) rfl
        · intro ρ w a hw hG hf hd K hK
          obtain ⟨o2, o9⟩ := hG
          exact dv_ hK hw (wn rfl) (r_move hf rfl) rfl
        · intro ρ w a hw hG hf hd K hK
          obtain ⟨o2, o9⟩ := hG
          obtain ⟨_, hf, rfl⟩ := got (hd 0 (by kernel_rfl)) hf
          obtain ⟨_, hf, rfl⟩ := got (hd 1 (by kernel_rfl)) hf
          obtain ⟨ad58, hl58⟩ := Ow.ce (d := fRef f6) o2.out 0 hc57.1 hc57.2
          have hn58 := o2.lt_gl hc57.1 hc57.2
          exact dv_ hK hw (wn rfl) (r_idx Try.underlying24 sz36 hf rfl hl58.at_ rfl hc57.1 hc57.2) (ex_ <| an_ rfl <| an_ hn58 <| hl58)
        · intro ρ w a hw hG hf hd K hK
          obtain ⟨o2, o9⟩ := hG
          obtain ⟨_, hf, ⟨ad58, rfl, hn58, hl58⟩⟩ := got (hd 2 (by kernel_rfl)) hf
          exact dv_ hK hw (wn rfl) (r_load_cell ty36 hf rfl hl58.co.cl) (an_ rfl <| hn58)
        · intro ρ w a hw hG hf hd K hK
          obtain ⟨o2, o9⟩ := hG
          exact dv_ hK hw (wn rfl) (r_load_cell ty3 hf rfl o9.cl) rfl
      intro ρ w a hw hG hf hd
      obtain ⟨o2, o9⟩ := hG
      obtain ⟨_, hf, ⟨rfl, hn58⟩⟩ := got (hd 3 (by decide)) hf
      obtain ⟨_, hf, rfl⟩ := got (hd 4 (by decide)) hf
      obtain ⟨hc59, hF⟩ := of_guard hF
      obtain ⟨ad60, hl60⟩ := Ow.ce (d := fI64) (o2.rowAt hn58) 0 hc59.1 hc59.2
      refine s_ hf (r_idx Try.underlying36 sz2 hf rfl hl60.at_ rfl hc59.1 hc59.2) fun a hf => ?_
      refine s_ hf (r_load_cell ty2 hf rfl hl60.co.cl) fun a hf => ?_
      refine s_ hf (r_assign hf rfl) fun a hf => ?_
      refine c_nt <| c_seq <| c_region ?_
      refine s_ hf (r_move hf rfl) fun a hf => ?_
      refine s_ hf (r_move hf rfl) fun a hf => ?_
      obtain ⟨ad61, hl61⟩ := Ow.ce (d := fRef f6) o2.out 0 hc57.1 hc57.2
      have hn61 := o2.lt_gl hc57.1 hc57.2
      refine s_ hf (r_idx Try.underlying24 sz36 hf rfl hl61.at_ rfl hc57.1 hc57.2) fun a hf => ?_
      refine s_ hf (r_load_cell ty36 hf rfl hl61.co.cl) fun a hf => ?_
      refine s_ hf (r_len Try.underlying36 ((o2.rowAt hn61).ro) hf rfl) fun a hf => ?_
      refine s_ hf (r_move hf rfl) fun a hf => ?_
      refine c_nt ?_
      obtain ⟨ol62, ho62, hG62⟩ := of_bind hF
      clear hF
      refine c_block (c_loop (id := 8) (fun s => impl_inverted_l62 a0 s21 s22 x26 s53 s54 s.1 s.2) (fun (s : Int × (List (List Int))) a w => match s with | (s63, s64) => ∃ ρ, Wd w0 ρ w ∧ Fr 172 a [(0, vI a0), (5, vI (a1.length : Int)), (6, vv5), (10, .pointer (some ((⟨g9, 0, none⟩ : Addr).add 0))), (14, vI s53), (15, vI (gl 0 (s54.getD (gl 0 ((s22.set s21.toNat (gl 0 s22 (w64 (s21 + x26)))).set (w64 (s21 + x26)).toNat (gl 0 s22 s21)) s53) []) s21)), (43, vI (a1.length : Int)), (44, vI s21), (104, vI (((s22.set s21.toNat (gl 0 s22 (w64 (s21 + x26)))).set (w64 (s21 + x26)).toNat (gl 0 s22 s21)).length : Int)), (105, vI s53), (122, vI ((s54.getD (gl 0 ((s22.set s21.toNat (gl 0 s22 (w64 (s21 + x26)))).set (w64 (s21 + x26)).toNat (gl 0 s22 s21)) s53) []).length : Int)), (123, vI s63)] ∧ Gd fI64 2 36 ρ w w0.heap.size 2 vv5 f6 ((s22.set s21.toNat (gl 0 s22 (w64 (s21 + x26)))).set (w64 (s21 + x26)).toNat (gl 0 s22 s21)) s64 ∧ Va ρ w 9 g9 3 ([vI s21])) (fun (s : Int × (List (List Int))) a w => match s with | (s63, s64) => ∃ ρ, Wd w0 ρ w ∧ Fr 172 a [(0, vI a0), (5, vI (a1.length : Int)), (6, vv5), (10, .pointer (some ((⟨g9, 0, none⟩ : Addr).add 0))), (43, vI (a1.length : Int)), (44, vI s21), (104, vI (((s22.set s21.toNat (gl 0 s22 (w64 (s21 + x26)))).set (w64 (s21 + x26)).toNat (gl 0 s22 s21)).length : Int)), (105, vI s53)] ∧ Gd fI64 2 36 ρ w w0.heap.size 2 vv5 f6 ((s22.set s21.toNat (gl 0 s22 (w64 (s21 + x26)))).set (w64 (s21 + x26)).toNat (gl 0 s22 s21)) s64 ∧ Va ρ w 9 g9 3 ([vI s21])) ho62 ⟨_, hw, hf.sub ⟨rfl, rfl, rfl, rfl, rfl, rfl, rfl, rfl, rfl, rfl, rfl, rfl, trivial⟩, o2, o9⟩ ?_ ?_)
      · rintro ⟨s63, s64⟩ lr a w ⟨ρ, hw, hf, o2, o9⟩ hF
        replace hF : impl_inverted_l62 a0 s21 s22 x26 s53 s54 s63 s64 = some lr := hF
        unfold impl_inverted_l62 at hF
        refine c_seq <| c_region ?_
        refine s_ hf (r_lss hf rfl rfl) fun a hf => ?_
        refine c_nt <| c_seq ?_
        rcases of_ite hF with ⟨hb65, hF⟩ | ⟨hb65, hF⟩
        rotate_left
        · refine c_iff hf rfl hb65 <| c_exit <| x_then ?_
          obtain rfl := Option.some.inj hF
          exact Rnd.stops ⟨_, hw, hf.sub ⟨rfl, rfl, rfl, rfl, rfl, rfl, rfl, rfl, trivial⟩, o2, o9⟩
        refine c_ift hf rfl hb65 <| c_skip <| n_then <| c_seq <| c_block <| c_seq <| c_region ?_
        refine s_ hf (r_move hf rfl) fun a hf => ?_
        refine s_ hf (r_assign hf rfl) fun a hf => ?_
        refine c_nt ?_
        obtain ⟨hc68, hF⟩ := of_guard hF
        obtain ⟨hc71, hF⟩ := of_guard hF
        obtain ⟨hc73, hF⟩ := of_guard hF
        replace hf : Fr 172 a [(0, vI a0), (5, vI (a1.length : Int)), (6, vv5), (10, .pointer (some ((⟨g9, 0, none⟩ : Addr).add 0))), (14, vI s53), (15, vI (gl 0 (s54.getD (gl 0 ((s22.set s21.toNat (gl 0 s22 (w64 (s21 + x26)))).set (w64 (s21 + x26)).toNat (gl 0 s22 s21)) s53) []) s21)), (16, vI s63), (43, vI (a1.length : Int)), (44, vI s21), (104, vI (((s22.set s21.toNat (gl 0 s22 (w64 (s21 + x26)))).set (w64 (s21 + x26)).toNat (gl 0 s22 s21)).length : Int)), (105, vI s53), (122, vI ((s54.getD (gl 0 ((s22.set s21.toNat (gl 0 s22 (w64 (s21 + x26)))).set (w64 (s21 + x26)).toNat (gl 0 s22 s21)) s53) []).length : Int)), (123, vI s63)] := hf.sub ⟨rfl, rfl, rfl, rfl, rfl, rfl, rfl, rfl, rfl, rfl, rfl, rfl, rfl, trivial⟩
        refine c_drawL (h := 26) mixed (by kernel_rfl) (by kernel_rfl) (fun ρ w => Gd fI64 2 36 ρ w w0.heap.size 2 vv5 f6 ((s22.set s21.toNat (gl 0 s22 (w64 (s21 + x26)))).set (w64 (s21 + x26)).toNat (gl 0 s22 s21)) s64 ∧ Va ρ w 9 g9 3 ([vI s21])) ?_ [fun ρ w v => vv5 = v, fun ρ w v => vI s53 = v, fun ρ w v => ∃ ad66, .pointer (some (ad66.add (s53.toNat * 1))) = v ∧ (gl 0 ((s22.set s21.toNat (gl 0 s22 (w64 (s21 + x26)))).set (w64 (s21 + x26)).toNat (gl 0 s22 s21)) s53) < s64.length ∧ Ce ρ w 2 vv5 (((s22.set s21.toNat (gl 0 s22 (w64 (s21 + x26)))).set (w64 (s21 + x26)).toNat (gl 0 s22 s21)).length) ad66 (s53.toNat * 1) ([(f6 (gl 0 ((s22.set s21.toNat (gl 0 s22 (w64 (s21 + x26)))).set (w64 (s21 + x26)).toNat (gl 0 s22 s21)) s53)).1]), fun ρ w v => (f6 (gl 0 ((s22.set s21.toNat (gl 0 s22 (w64 (s21 + x26)))).set (w64 (s21 + x26)).toNat (gl 0 s22 s21)) s53)).1 = v ∧ (gl 0 ((s22.set s21.toNat (gl 0 s22 (w64 (s21 + x26)))).set (w64 (s21 + x26)).toNat (gl 0 s22 s21)) s53) < s64.length, fun ρ w v => vI s63 = v, fun ρ w v => vv5 = v, fun ρ w v => vI s53 = v, fun ρ w v => ∃ ad67, .pointer (some (ad67.add (s53.toNat * 1))) = v ∧ (gl 0 ((s22.set s21.toNat (gl 0 s22 (w64 (s21 + x26)))).set (w64 (s21 + x26)).toNat (gl 0 s22 s21)) s53) < s64.length ∧ Ce ρ w 2 vv5 (((s22.set s21.toNat (gl 0 s22 (w64 (s21 + x26)))).set (w64 (s21 + x26)).toNat (gl 0 s22 s21)).length) ad67 (s53.toNat * 1) ([(f6 (gl 0 ((s22.set s21.toNat (gl 0 s22 (w64 (s21 + x26)))).set (w64 (s21 + x26)).toNat (gl 0 s22 s21)) s53)).1]), fun ρ w v => (f6 (gl 0 ((s22.set s21.toNat (gl 0 s22 (w64 (s21 + x26)))).set (w64 (s21 + x26)).toNat (gl 0 s22 s21)) s53)).1 = v ∧ (gl 0 ((s22.set s21.toNat (gl 0 s22 (w64 (s21 + x26)))).set (w64 (s21 + x26)).toNat (gl 0 s22 s21)) s53) < s64.length, fun ρ w v => vI s63 = v, fun ρ w v => ∃ ad69, .pointer (some (ad69.add (s63.toNat * 1))) = v ∧ Ce ρ w (lab 2 (gl 0 ((s22.set s21.toNat (gl 0 s22 (w64 (s21 + x26)))).set (w64 (s21 + x26)).toNat (gl 0 s22 s21)) s53)) ((f6 (gl 0 ((s22.set s21.toNat (gl 0 s22 (w64 (s21 + x26)))).set (w64 (s21 + x26)).toNat (gl 0 s22 s21)) s53)).1) ((s64.getD (gl 0 ((s22.set s21.toNat (gl 0 s22 (w64 (s21 + x26)))).set (w64 (s21 + x26)).toNat (gl 0 s22 s21)) s53) []).length) ad69 (s63.toNat * 1) (fI64.enc (gl 0 (s64.getD (gl 0 ((s22.set s21.toNat (gl 0 s22 (w64 (s21 + x26)))).set (w64 (s21 + x26)).toNat (gl 0 s22 s21)) s53) []) s63)), fun ρ w v => vI (gl 0 (s64.getD (gl 0 ((s22.set s21.toNat (gl 0 s22 (w64 (s21 + x26)))).set (w64 (s21 + x26)).toNat (gl 0 s22 s21)) s53) []) s63) = v, fun ρ w v => vI a0 = v, fun ρ w v => vI (gl 0 (s54.getD (gl 0 ((s22.set s21.toNat (gl 0 s22 (w64 (s21 + x26)))).set (w64 (s21 + x26)).toNat (gl 0 s22 s21)) s53) []) s21) = v, fun ρ w v => vI (w64 (a0 - (gl 0 (s54.getD (gl 0 ((s22.set s21.toNat (gl 0 s22 (w64 (s21 + x26)))).set (w64 (s21 + x26)).toNat (gl 0 s22 s21)) s53) []) s21))) = v, fun ρ w v => vv5 = v, fun ρ w v => vI s21 = v, fun ρ w v => ∃ ad70, .pointer (some (ad70.add (s21.toNat * 1))) = v ∧ (gl 0 ((s22.set s21.toNat (gl 0 s22 (w64 (s21 + x26)))).set (w64 (s21 + x26)).toNat (gl 0 s22 s21)) s21) < s64.length ∧ Ce ρ w 2 vv5 (((s22.set s21.toNat (gl 0 s22 (w64 (s21 + x26)))).set (w64 (s21 + x26)).toNat (gl 0 s22 s21)).length) ad70 (s21.toNat * 1) ([(f6 (gl 0 ((s22.set s21.toNat (gl 0 s22 (w64 (s21 + x26)))).set (w64 (s21 + x26)).toNat (gl 0 s22 s21)) s21)).1]), fun ρ w v => (f6 (gl 0 ((s22.set s21.toNat (gl 0 s22 (w64 (s21 + x26)))).set (w64 (s21 + x26)).toNat (gl 0 s22 s21)) s21)).1 = v ∧ (gl 0 ((s22.set s21.toNat (gl 0 s22 (w64 (s21 + x26)))).set (w64 (s21 + x26)).toNat (gl 0 s22 s21)) s21) < s64.length, fun ρ w v => vI s63 = v, fun ρ w v => ∃ ad72, .pointer (some (ad72.add (s63.toNat * 1))) = v ∧ Ce ρ w (lab 2 (gl 0 ((s22.set s21.toNat (gl 0 s22 (w64 (s21 + x26)))).set (w64 (s21 + x26)).toNat (gl 0 s22 s21)) s21)) ((f6 (gl 0 ((s22.set s21.toNat (gl 0 s22 (w64 (s21 + x26)))).set (w64 (s21 + x26)).toNat (gl 0 s22 s21)) s21)).1) ((s64.getD (gl 0 ((s22.set s21.toNat (gl 0 s22 (w64 (s21 + x26)))).set (w64 (s21 + x26)).toNat (gl 0 s22 s21)) s21) []).length) ad72 (s63.toNat * 1) (fI64.enc (gl 0 (s64.getD (gl 0 ((s22.set s21.toNat (gl 0 s22 (w64 (s21 + x26)))).set (w64 (s21 + x26)).toNat (gl 0 s22 s21)) s21) []) s63)), fun ρ w v => vI (gl 0 (s64.getD (gl 0 ((s22.set s21.toNat (gl 0 s22 (w64 (s21 + x26)))).set (w64 (s21 + x26)).toNat (gl 0 s22 s21)) s21) []) s63) = v, fun ρ w v => vI (w64 ((w64 (a0 - (gl 0 (s54.getD (gl 0 ((s22.set s21.toNat (gl 0 s22 (w64 (s21 + x26)))).set (w64 (s21 + x26)).toNat (gl 0 s22 s21)) s53) []) s21))) * (gl 0 (s64.getD (gl 0 ((s22.set s21.toNat (gl 0 s22 (w64 (s21 + x26)))).set (w64 (s21 + x26)).toNat (gl 0 s22 s21)) s21) []) s63))) = v, fun ρ w v => vI (w64 ((gl 0 (s64.getD (gl 0 ((s22.set s21.toNat (gl 0 s22 (w64 (s21 + x26)))).set (w64 (s21 + x26)).toNat (gl 0 s22 s21)) s53) []) s63) + (w64 ((w64 (a0 - (gl 0 (s54.getD (gl 0 ((s22.set s21.toNat (gl 0 s22 (w64 (s21 + x26)))).set (w64 (s21 + x26)).toNat (gl 0 s22 s21)) s53) []) s21))) * (gl 0 (s64.getD (gl 0 ((s22.set s21.toNat (gl 0 s22 (w64 (s21 + x26)))).set (w64 (s21 + x26)).toNat (gl 0 s22 s21)) s21) []) s63))))) = v, fun ρ w v => vI a0 = v, fun ρ w v => vI ((w64 ((gl 0 (s64.getD (gl 0 ((s22.set s21.toNat (gl 0 s22 (w64 (s21 + x26)))).set (w64 (s21 + x26)).toNat (gl 0 s22 s21)) s53) []) s63) + (w64 ((w64 (a0 - (gl 0 (s54.getD (gl 0 ((s22.set s21.toNat (gl 0 s22 (w64 (s21 + x26)))).set (w64 (s21 + x26)).toNat (gl 0 s22 s21)) s53) []) s21))) * (gl 0 (s64.getD (gl 0 ((s22.set s21.toNat (gl 0 s22 (w64 (s21 + x26)))).set (w64 (s21 + x26)).toNat (gl 0 s22 s21)) s21) []) s63))))).tmod a0) = v] ?_ hw ⟨o2, o9⟩ hf ?_ ?_
        · intro ρ w ρ' w' hE hG
          obtain ⟨o2, o9⟩ := hG
          exact ⟨o2.ext hE, o9.ext hE⟩
        · exact LastsL.cons (fun _ _ _ _ _ _ h => h) <| LastsL.cons (fun _ _ _ _ _ _ h => h) <| LastsL.cons (fun _ _ _ _ _ hE h => by obtain ⟨ad66, h, hn66, hl66⟩ := h; exact ⟨_, h, hn66, hl66.ext hE⟩) <| LastsL.cons (fun _ _ _ _ _ hE h => by obtain ⟨h, hn66⟩ := h; exact ⟨h, hn66⟩) <| LastsL.cons (fun _ _ _ _ _ _ h => h) <| LastsL.cons (fun _ _ _ _ _ _ h => h) <| LastsL.cons (fun _ _ _ _ _ _ h => h) <| LastsL.cons (fun _ _ _ _ _ hE h => by obtain ⟨ad67, h, hn67, hl67⟩ := h; exact ⟨_, h, hn67, hl67.ext hE⟩) <| LastsL.cons (fun _ _ _ _ _ hE h => by obtain ⟨h, hn67⟩ := h; exact ⟨h, hn67⟩) <| LastsL.cons (fun _ _ _ _ _ _ h => h) <| LastsL.cons (fun _ _ _ _ _ hE h => by obtain ⟨ad69, h, hl69⟩ := h; exact ⟨_, h, hl69.ext hE⟩) <| LastsL.cons (fun _ _ _ _ _ _ h => h) <| LastsL.cons (fun _ _ _ _ _ _ h => h) <| LastsL.cons (fun _ _ _ _ _ _ h => h) <| LastsL.cons (fun _ _ _ _ _ _ h => h) <| LastsL.cons (fun _ _ _ _ _ _ h => h) <| LastsL.cons (fun _ _ _ _ _ _ h => h) <| LastsL.cons (fun _ _ _ _ _ hE h => by obtain ⟨ad70, h, hn70, hl70⟩ := h; exact ⟨_, h, hn70, hl70.ext hE⟩) <| LastsL.cons (fun _ _ _ _ _ hE h => by obtain ⟨h, hn70⟩ := h; exact ⟨h, hn70⟩) <| LastsL.cons (fun _ _ _ _ _ _ h => h) <| LastsL.cons (fun _ _ _ _ _ hE h => by obtain ⟨ad72, h, hl72⟩ := h; exact ⟨_, h, hl72.ext hE⟩) <| LastsL.cons (fun _ _ _ _ _ _ h => h) <| LastsL.cons (fun _ _ _ _ _ _ h => h) <| LastsL.cons (fun _ _ _ _ _ _ h => h) <| LastsL.cons (fun _ _ _ _ _ _ h => h) <| LastsL.cons (fun _ _ _ _ _ _ h => h) <| LastsL.nil
        · refine StepsB.cons ?_ <| StepsB.cons ?_ <| StepsB.cons ?_ <| StepsB.cons ?_ <| StepsB.cons ?_ <| StepsB.cons ?_ <| StepsB.cons ?_ <| StepsB.cons ?_ <| StepsB.cons ?_ <| StepsB.cons ?_ <| StepsB.cons ?_ <| StepsB.cons ?_ <| StepsB.cons ?_ <| StepsB.cons ?_ <| StepsB.cons ?_ <| StepsB.cons ?_ <| StepsB.cons ?_ <| StepsB.cons ?_ <| StepsB.cons ?_ <| StepsB.cons ?_ <| StepsB.cons ?_ <| StepsB.cons ?_ <| StepsB.cons ?_ <| StepsB.cons ?_ <| StepsB.cons ?_ <| StepsB.cons ?_ <| StepsB.nil
          · intro ρ w a hw hG hf hd K hK
            obtain ⟨o2, o9⟩ := hG
            exact dv_ hK hw (wn rfl) (r_move hf rfl) rfl
          · intro ρ w a hw hG hf hd K hK
            obtain ⟨o2, o9⟩ := hG
            exact dv_ hK hw (wn rfl) (r_move hf rfl) rfl
          · intro ρ w a hw hG hf hd K hK
            obtain ⟨o2, o9⟩ := hG
            obtain ⟨_, hf, rfl⟩ := got (hd 0 (by kernel_rfl)) hf
            obtain ⟨_, hf, rfl⟩ := got (hd 1 (by kernel_rfl)) hf
            obtain ⟨ad66, hl66⟩ := Ow.ce (d := fRef f6) o2.out 0 hc57.1 hc57.2
            have hn66 := o2.lt_gl hc57.1 hc57.2
            exact dv_ hK hw (wn rfl) (r_idx Try.underlying24 sz36 hf rfl hl66.at_ rfl hc57.1 hc57.2) (ex_ <| an_ rfl <| an_ hn66 <| hl66)
          · intro ρ w a hw hG hf hd K hK
            obtain ⟨o2, o9⟩ := hG
            obtain ⟨_, hf, ⟨ad66, rfl, hn66, hl66⟩⟩ := got (hd 2 (by kernel_rfl)) hf
            exact dv_ hK hw (wn rfl) (r_load_cell ty36 hf rfl hl66.co.cl) (an_ rfl <| hn66)
          · intro ρ w a hw hG hf hd K hK
            obtain ⟨o2, o9⟩ := hG
            exact dv_ hK hw (wn rfl) (r_move hf rfl) rfl
          · intro ρ w a hw hG hf hd K hK
            obtain ⟨o2, o9⟩ := hG
            exact dv_ hK hw (wn rfl) (r_move hf rfl) rfl
          · intro ρ w a hw hG hf hd K hK
            obtain ⟨o2, o9⟩ := hG
            exact dv_ hK hw (wn rfl) (r_move hf rfl) rfl
          · intro ρ w a hw hG hf hd K hK
            obtain ⟨o2, o9⟩ := hG
            obtain ⟨_, hf, rfl⟩ := got (hd 5 (by kernel_rfl)) hf
            obtain ⟨_, hf, rfl⟩ := got (hd 6 (by kernel_rfl)) hf
            obtain ⟨ad67, hl67⟩ := Ow.ce (d := fRef f6) o2.out 0 hc57.1 hc57.2
            have hn67 := o2.lt_gl hc57.1 hc57.2
            exact dv_ hK hw (wn rfl) (r_idx Try.underlying24 sz36 hf rfl hl67.at_ rfl hc57.1 hc57.2) (ex_ <| an_ rfl <| an_ hn67 <| hl67)
          · intro ρ w a hw hG hf hd K hK
            obtain ⟨o2, o9⟩ := hG
            obtain ⟨_, hf, ⟨ad67, rfl, hn67, hl67⟩⟩ := got (hd 7 (by kernel_rfl)) hf
            exact dv_ hK hw (wn rfl) (r_load_cell ty36 hf rfl hl67.co.cl) (an_ rfl <| hn67)
          · intro ρ w a hw hG hf hd K hK
            obtain ⟨o2, o9⟩ := hG
            exact dv_ hK hw (wn rfl) (r_move hf rfl) rfl
          · intro ρ w a hw hG hf hd K hK
            obtain ⟨o2, o9⟩ := hG
            obtain ⟨_, hf, ⟨rfl, hn67⟩⟩ := got (hd 8 (by kernel_rfl)) hf
            obtain ⟨_, hf, rfl⟩ := got (hd 9 (by kernel_rfl)) hf
            obtain ⟨ad69, hl69⟩ := Ow.ce (d := fI64) (o2.rowAt hn67) 0 hc68.1 hc68.2
            exact dv_ hK hw (wn rfl) (r_idx Try.underlying36 sz2 hf rfl hl69.at_ rfl hc68.1 hc68.2) (ex_ <| an_ rfl <| hl69)
          · intro ρ w a hw hG hf hd K hK
            obtain ⟨o2, o9⟩ := hG
            obtain ⟨_, hf, ⟨ad69, rfl, hl69⟩⟩ := got (hd 10 (by kernel_rfl)) hf
            exact dv_ hK hw (wn rfl) (r_load_cell ty2 hf rfl hl69.co.cl) rfl
          · intro ρ w a hw hG hf hd K hK
            obtain ⟨o2, o9⟩ := hG
            exact dv_ hK hw (wn rfl) (r_move hf rfl) rfl
          · intro ρ w a hw hG hf hd K hK
            obtain ⟨o2, o9⟩ := hG
            exact dv_ hK hw (wn rfl) (r_move hf rfl) rfl
          · intro ρ w a hw hG hf hd K hK
            obtain ⟨o2, o9⟩ := hG
            obtain ⟨_, hf, rfl⟩ := got (hd 12 (by kernel_rfl)) hf
            obtain ⟨_, hf, rfl⟩ := got (hd 13 (by kernel_rfl)) hf
            exact dv_ hK hw (wn rfl) (r_sub hf rfl rfl) rfl
          · intro ρ w a hw hG hf hd K hK
            obtain ⟨o2, o9⟩ := hG
            exact dv_ hK hw (wn rfl) (r_move hf rfl) rfl
          · intro ρ w a hw hG hf hd K hK
            obtain ⟨o2, o9⟩ := hG
            exact dv_ hK hw (wn rfl) (r_load_cell ty3 hf rfl o9.cl) rfl
          · intro ρ w a hw hG hf hd K hK
            obtain ⟨o2, o9⟩ := hG
            obtain ⟨_, hf, rfl⟩ := got (hd 15 (by kernel_rfl)) hf
            obtain ⟨_, hf, rfl⟩ := got (hd 16 (by kernel_rfl)) hf
            obtain ⟨ad70, hl70⟩ := Ow.ce (d := fRef f6) o2.out 0 hc35.1 hc35.2
            have hn70 := o2.lt_gl hc35.1 hc35.2
            exact dv_ hK hw (wn rfl) (r_idx Try.underlying24 sz36 hf rfl hl70.at_ rfl hc35.1 hc35.2) (ex_ <| an_ rfl <| an_ hn70 <| hl70)
          · intro ρ w a hw hG hf hd K hK
            obtain ⟨o2, o9⟩ := hG
            obtain ⟨_, hf, ⟨ad70, rfl, hn70, hl70⟩⟩ := got (hd 17 (by kernel_rfl)) hf
            exact dv_ hK hw (wn rfl) (r_load_cell ty36 hf rfl hl70.co.cl) (an_ rfl <| hn70)
          · intro ρ w a hw hG hf hd K hK
            obtain ⟨o2, o9⟩ := hG
            exact dv_ hK hw (wn rfl) (r_move hf rfl) rfl
          · intro ρ w a hw hG hf hd K hK
            obtain ⟨o2, o9⟩ := hG
            obtain ⟨_, hf, ⟨rfl, hn70⟩⟩ := got (hd 18 (by kernel_rfl)) hf
            obtain ⟨_, hf, rfl⟩ := got (hd 19 (by kernel_rfl)) hf
            obtain ⟨ad72, hl72⟩ := Ow.ce (d := fI64) (o2.rowAt hn70) 0 hc71.1 hc71.2
            exact dv_ hK hw (wn rfl) (r_idx Try.underlying36 sz2 hf rfl hl72.at_ rfl hc71.1 hc71.2) (ex_ <| an_ rfl <| hl72)
          · intro ρ w a hw hG hf hd K hK
            obtain ⟨o2, o9⟩ := hG
            obtain ⟨_, hf, ⟨ad72, rfl, hl72⟩⟩ := got (hd 20 (by kernel_rfl)) hf
            exact dv_ hK hw (wn rfl) (r_load_cell ty2 hf rfl hl72.co.cl) rfl
          · intro ρ w a hw hG hf hd K hK
            obtain ⟨o2, o9⟩ := hG
            obtain ⟨_, hf, rfl⟩ := got (hd 14 (by kernel_rfl)) hf
            obtain ⟨_, hf, rfl⟩ := got (hd 21 (by kernel_rfl)) hf
            exact dv_ hK hw (wn rfl) (r_mul hf rfl rfl) rfl
          · intro ρ w a hw hG hf hd K hK
            obtain ⟨o2, o9⟩ := hG
            obtain ⟨_, hf, rfl⟩ := got (hd 11 (by kernel_rfl)) hf
            obtain ⟨_, hf, rfl⟩ := got (hd 22 (by kernel_rfl)) hf
            exact dv_ hK hw (wn rfl) (r_add hf rfl rfl) rfl
          · intro ρ w a hw hG hf hd K hK
            obtain ⟨o2, o9⟩ := hG
            exact dv_ hK hw (wn rfl) (r_move hf rfl) rfl
          · intro ρ w a hw hG hf hd K hK
            obtain ⟨o2, o9⟩ := hG
            obtain ⟨_, hf, rfl⟩ := got (hd 23 (by kernel_rfl)) hf
            obtain ⟨_, hf, rfl⟩ := got (hd 24 (by kernel_rfl)) hf
            exact dv_ hK hw (wn rfl) (r_rem hf rfl rfl hc73) rfl
        intro ρ w a hw hG hf hd
        obtain ⟨o2, o9⟩ := hG
        obtain ⟨_, hf, ⟨rfl, hn66⟩⟩ := got (hd 3 (by decide)) hf
        obtain ⟨_, hf, rfl⟩ := got (hd 4 (by decide)) hf
        obtain ⟨_, hf, rfl⟩ := got (hd 25 (by decide)) hf
        obtain ⟨ad74, hl74⟩ := Ow.ce (d := fI64) (o2.rowAt hn66) 0 hc68.1 hc68.2
        refine s_ hf (r_idx Try.underlying36 sz2 hf rfl hl74.at_ rfl hc68.1 hc68.2) fun a hf => ?_
        refine sk_ hf (r_gcell (p := s63) (b := (w64 ((gl 0 (s64.getD (gl 0 ((s22.set s21.toNat (gl 0 s22 (w64 (s21 + x26)))).set (w64 (s21 + x26)).toNat (gl 0 s22 s21)) s53) []) s63) + (w64 ((w64 (a0 - (gl 0 (s54.getD (gl 0 ((s22.set s21.toNat (gl 0 s22 (w64 (s21 + x26)))).set (w64 (s21 + x26)).toNat (gl 0 s22 s21)) s53) []) s21))) * (gl 0 (s64.getD (gl 0 ((s22.set s21.toNat (gl 0 s22 (w64 (s21 + x26)))).set (w64 (s21 + x26)).toNat (gl 0 s22 s21)) s21) []) s63))))).tmod a0) 0 hw o2 hc68.1 hc68.2 (Lens.id _) hl74.at_ ty2 (by first | rfl | exact Nat.add_assoc _ _ _ | (simp only [Nat.add_assoc]; rfl)) hf rfl rfl rfl) fun a w hf hΦ => ?_
        obtain ⟨hw, hA, o2⟩ := hΦ
        replace o9 := o9.adv hA (by unfold lab; omega)
        replace hn66 : (gl 0 ((s22.set s21.toNat (gl 0 s22 (w64 (s21 + x26)))).set (w64 (s21 + x26)).toNat (gl 0 s22 s21)) s53) < (s64.set (gl 0 ((s22.set s21.toNat (gl 0 s22 (w64 (s21 + x26)))).set (w64 (s21 + x26)).toNat (gl 0 s22 s21)) s53) ((s64.getD (gl 0 ((s22.set s21.toNat (gl 0 s22 (w64 (s21 + x26)))).set (w64 (s21 + x26)).toNat (gl 0 s22 s21)) s53) []).set s63.toNat ((w64 ((gl 0 (s64.getD (gl 0 ((s22.set s21.toNat (gl 0 s22 (w64 (s21 + x26)))).set (w64 (s21 + x26)).toNat (gl 0 s22 s21)) s53) []) s63) + (w64 ((w64 (a0 - (gl 0 (s54.getD (gl 0 ((s22.set s21.toNat (gl 0 s22 (w64 (s21 + x26)))).set (w64 (s21 + x26)).toNat (gl 0 s22 s21)) s53) []) s21))) * (gl 0 (s64.getD (gl 0 ((s22.set s21.toNat (gl 0 s22 (w64 (s21 + x26)))).set (w64 (s21 + x26)).toNat (gl 0 s22 s21)) s21) []) s63))))).tmod a0))).length := by simp only [List.length_append, List.length_set]; omega
        refine c_nil <| n_block <| n_then <| c_region ?_
        refine s_ hf (r_add hf rfl rfl) fun a hf => ?_
        refine s_ hf (r_move hf rfl) fun a hf => ?_
        refine c_nil ?_
        obtain rfl := Option.some.inj hF
        exact Rnd.goes ⟨_, hw, hf.sub ⟨rfl, rfl, rfl, rfl, rfl, rfl, rfl, rfl, rfl, rfl, rfl, rfl, trivial⟩, o2, o9⟩
      rintro ⟨s63, s64⟩ a w hs ⟨ρ, hw, hf, o2, o9⟩
      subst hs
      have hF := hG62
      dsimp only at hF
      refine x_block <| n_block <| n_then <| c_region ?_
      refine s_ hf (r_add hf rfl rfl) fun a hf => ?_
      refine s_ hf (r_move hf rfl) fun a hf => ?_
      refine c_nil ?_
      obtain rfl := Option.some.inj hF
      exact Rnd.goes ⟨_, hw, hf.sub ⟨rfl, rfl, rfl, rfl, rfl, rfl, rfl, rfl, trivial⟩, o2, o9⟩
    rintro ⟨s53, s54⟩ a w hs ⟨ρ, hw, hf, o2⟩
    subst hs
    have hF := hG52
    dsimp only at hF
    refine x_block <| n_block <| n_then <| c_region ?_
    refine s_ hf (r_add hf rfl rfl) fun a hf => ?_
    refine s_ hf (r_move hf rfl) fun a hf => ?_
    refine c_nil ?_
    obtain rfl := Option.some.inj hF
    exact Rnd.goes ⟨_, hw, hf.sub ⟨rfl, rfl, rfl, rfl, rfl, trivial⟩, o2⟩
  rintro ⟨s21, s22, s23⟩ a w hs ⟨ρ, hw, hf, o2⟩
  subst hs
  have hF := hG20
  dsimp only at hF
  refine x_block <| n_then <| c_seq <| c_region ?_
  refine sx_ hf (r_lit_none (d := (Kd.slice 2 (kf fI64))) 46 Try.underlying24 el36 hw) fun a v46 w hf hΦ => ?_
  obtain ⟨ρ, hw, hE, o46⟩ := hΦ
  replace o2 := o2.ext hE
  replace o46 : Gd fI64 2 36 ρ w w0.heap.size 46 v46 (fun _ => (⟨.bool false, rfl⟩ : V1)) ([] : List Nat) ([] : List (List Int)) := Gd.empty o46 rfl (by decide) _
  refine s_ hf (r_assign hf rfl) fun a hf => ?_
  refine c_nt <| c_seq <| c_seq <| c_region ?_
  refine s_ hf (r_move hf rfl) fun a hf => ?_
  refine s_ hf (r_len Try.underlying24 o2.out.ro hf rfl) fun a hf => ?_
  refine s_ hf (r_move hf rfl) fun a hf => ?_
  refine c_nt ?_
  obtain ⟨ol75, ho75, hG75⟩ := of_bind hF
  clear hF
  refine c_block (c_loop (id := 10) (fun s => impl_inverted_l75 a1 s22 s23 s.1 s.2.1 s.2.2) (fun (s : Int × (List Nat) × (List (List Int))) a w => match s with | (s76, s77, s78) => ∃ ρ vv79 f80, Wd w0 ρ w ∧ Fr 172 a [(5, vI (a1.length : Int)), (17, vv79), (157, vv5), (158, vI (s22.length : Int)), (159, vI s76)] ∧ Gd fI64 2 36 ρ w w0.heap.size 2 vv5 f6 s22 s23 ∧ Gd fI64 2 36 ρ w w0.heap.size 46 vv79 f80 s77 s78) (fun (s : Int × (List Nat) × (List (List Int))) a w => match s with | (s76, s77, s78) => ∃ ρ vv79 f80, Wd w0 ρ w ∧ Fr 172 a [(17, vv79)] ∧ Gd fI64 2 36 ρ w w0.heap.size 46 vv79 f80 s77 s78) ho75 ⟨_, _, _, hw, hf.sub ⟨rfl, rfl, rfl, rfl, rfl, trivial⟩, o2, o46⟩ ?_ ?_)
  · rintro ⟨s76, s77, s78⟩ lr a w ⟨ρ, vv79, f80, hw, hf, o2, o46⟩ hF
    replace hF : impl_inverted_l75 a1 s22 s23 s76 s77 s78 = some lr := hF
    unfold impl_inverted_l75 at hF
    refine c_seq <| c_region ?_
    refine s_ hf (r_lss hf rfl rfl) fun a hf => ?_
    refine c_nt <| c_seq ?_
    rcases of_ite hF with ⟨hb81, hF⟩ | ⟨hb81, hF⟩
    rotate_left
    · refine c_iff hf rfl hb81 <| c_exit <| x_then ?_
      obtain rfl := Option.some.inj hF
      exact Rnd.stops ⟨_, _, _, hw, hf.sub ⟨rfl, trivial⟩, o46⟩
    refine c_ift hf rfl hb81 <| c_skip <| n_then <| c_seq <| c_block <| c_seq <| c_region ?_
    obtain ⟨hc82, hF⟩ := of_guard hF
    obtain ⟨ad83, hl83⟩ := Ow.ce (d := fRef f6) o2.out 0 hc82.1 hc82.2
    have hn83 := o2.lt_gl hc82.1 hc82.2
    refine s_ hf (r_idx Try.underlying24 sz36 hf rfl hl83.at_ rfl hc82.1 hc82.2) fun a hf => ?_
    refine s_ hf (r_load_cell ty36 hf rfl hl83.co.cl) fun a hf => ?_
    refine s_ hf (r_assign hf rfl) fun a hf => ?_
    refine c_nt <| c_region ?_
    refine s_ hf (r_move hf rfl) fun a hf => ?_
    refine s_ hf (r_move hf rfl) fun a hf => ?_
    refine s_ hf (r_move hf rfl) fun a hf => ?_
    obtain ⟨hc84, hF⟩ := of_guard hF
    have o49 : Ro (kf fI64) w (cutV ((f6 (gl 0 s22 s76)).1) (a1.length : Int).toNat ((s23.getD (gl 0 s22 s76) []).length : Int).toNat 1) (((s23.getD (gl 0 s22 s76) []).take ((s23.getD (gl 0 s22 s76) []).length : Int).toNat).drop (a1.length : Int).toNat) := ro_cutV ((o2.rowAt hn83).ro) hc84.1 hc84.2 (Int.le_refl _)
    refine s_ hf (r_cut_v (lo := (a1.length : Int)) (hi := ((s23.getD (gl 0 s22 s76) []).length : Int)) Try.underlying36 sz2 rfl ((o2.rowAt hn83).ro) hf rfl (.inr ⟨_, rfl, rfl⟩) (.inl ⟨rfl, rfl⟩) hc84.1 hc84.2 (Int.le_refl _)) fun a hf => ?_
    obtain ⟨x85, hx86, hF⟩ := of_bind hF
    refine st_fn 50 hw hf rfl rfl (by decide) (r_fn en111 hf rfl) (slices_Clone_111_ok o49 hx86) fun a v w ρ hf hw hE hN hΦ => ?_
    obtain ⟨u87, rfl, hr88⟩ := hΦ
    replace o2 := o2.ext hE
    replace o46 := o46.ext hE
    replace hl83 := hl83.ext hE
    replace o49 := o49.ext hE
    have o50 := hN hr88
    refine sx_ hf (r_glit 51 Try.underlying24 el36 hw hf rfl o50) fun a v51 w hf hΦ => ?_
    obtain ⟨ρ, hw, hE, o51⟩ := hΦ
    replace o2 := o2.ext hE
    replace o46 := o46.ext hE
    replace hl83 := hl83.ext hE
    replace o49 := o49.ext hE
    replace o50 := o50.ext hE
    obtain ⟨hc89, hF⟩ := of_guard hF
    refine sx_ hf (r_gapp' Try.underlying24 el36 hw (by decide) (by decide) (fun _ => by unfold lab; omega) o46 o51 o50 hc89 hf rfl rfl) fun a va90 w hf hΦ => ?_
    obtain ⟨f90, ρ, hw, hT, o46, hff90, hnu90⟩ := hΦ
    replace o2 := o2.tr (hT 2 (by decide) (by decide)) (fun _ => hT _ (by unfold lab; omega) (by unfold lab; omega))
    rw [hnu90] at hf
    have hn91 : s78.length < (s78 ++ [x85]).length := by simp
    refine s_ hf (r_assign hf rfl) fun a hf => ?_
    refine c_nil <| n_block <| n_then <| c_region ?_
    refine s_ hf (r_add hf rfl rfl) fun a hf => ?_
    refine s_ hf (r_move hf rfl) fun a hf => ?_
    refine c_nil ?_
    obtain rfl := Option.some.inj hF
    exact Rnd.goes ⟨_, _, _, hw, hf.sub ⟨rfl, rfl, rfl, rfl, rfl, trivial⟩, o2, o46⟩
  rintro ⟨s76, s77, s78⟩ a w hs ⟨ρ, vv79, f80, hw, hf, o46⟩
  subst hs
  have hF := hG75
  dsimp only at hF
  refine x_block <| n_then <| c_seq <| c_region ?_
  refine s_ hf (r_move hf rfl) fun a hf => ?_
  refine s_ hf (r_assign hf rfl) fun a hf => ?_
  refine c_nt <| c_retc ?_
  obtain rfl := Option.some.inj hF
  refine c_ret hf (res_tmp Try.results55 hf rfl) ?_
  exact ⟨_, rfl, hw.below, ⟨_, rfl, o46.fresh⟩⟩
/-! f105 -/
noncomputable def spec_l01Own (a0 : List Int) : Option (List Int) :=
  if (([] : List Int).length + a0.length) * 8 ≤ 140737488355328 then (some ((([] : List Int) ++ a0))) else none
theorem spec_l01Own_ok {w0 : World} {a0 : List Int} {va0 : Value} (h0 : Ro (kf fI64) w0 va0 a0) {r : List Int} (hF : spec_l01Own a0 = some r) :
    Calls Try.prog 105 [va0].toArray w0 fun e w => ∃ v, e = .returned v ∧ Below w0.heap.size w0 w ∧ ∃ u0, u0 = v ∧ Fresh (kf fI64) 2 w0 w u0 r := by
  refine calls_of (k := 6) Try.func105 rfl rfl (Nat.le_of_ble_eq_true rfl) fun a hf => ?_
  replace hf : Fr 6 a [(0, va0)] := hf
  refine c_start fun w ρ hw => ?_
  unfold spec_l01Own at hF
  refine c_seq <| c_region ?_
  have o1 : Ow (kf fI64) 2 ρ w w0.heap.size 1 (.slice none 0 0) [] := Ow.nil _ _ _ _ _ _
  refine s_ hf (r_assign hf rfl) fun a hf => ?_
  refine c_nt <| c_seq <| c_region ?_
  refine sx_ hf (r_lit (d := fI64) (xs := ([] : List Int)) (vs := []) 2 Try.underlying36 el2 (Nat.le_of_ble_eq_true rfl) (Nat.le_of_ble_eq_true rfl) hw hf rfl rfl rfl) fun a v2 w hf hΦ => ?_
  obtain ⟨ρ, hw, hE, o2⟩ := hΦ
  replace o1 := o1.ext hE
  refine s_ hf (r_move hf rfl) fun a hf => ?_
  obtain ⟨hc1, hF⟩ := of_guard hF
  refine sx_ hf (r_append Try.underlying36 el2 hw (by decide) o2 (h0.now hw) hc1 hf rfl rfl) fun a va2 w hf hΦ => ?_
  obtain ⟨ρ, hw, hA, o2⟩ := hΦ
  replace o1 := o1.adv hA (by decide)
  refine s_ hf (r_assign hf rfl) fun a hf => ?_
  refine c_nt <| c_retc ?_
  obtain rfl := Option.some.inj hF
  refine c_ret hf (res_tmp Try.results105 hf rfl) ?_
  exact ⟨_, rfl, hw.below, ⟨_, rfl, o2.out⟩⟩
end Go.Proofs.YtB
