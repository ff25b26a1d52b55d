/- Functions of the program as plain functions, and that they compute these. Printed by gen.py. -/
import Derived.Test.YtaaghemmkbgldaaFpG2
set_option linter.unusedVariables false
set_option linter.unusedSimpArgs false
set_option maxRecDepth 4000
set_option maxHeartbeats 1000000
namespace Go.Proofs.YtB
open Go Go.RowKit Go.Proofs Go.Proofs.YtaaghemmkbgldaaW.PrintWords
/-! f77 -/
noncomputable def impl_sum_l1 (a0 : Int) (a2 : Form) (a3 : Int) (s2 : Int) (s3 : Form) : Option (LR (Int × Form) Form) :=
  if (decide (s2 < 9)) = true then (if 0 ≤ s2 ∧ s2 < 9 then (if a0 ≠ 0 then (some (.next (w64 (s2 + 1), vs s3 s2 (u8 ((w64 (((vg 0 s3 s2).toNat : Int) + (w64 (a3 * ((vg 0 a2 s2).toNat : Int))))).tmod a0))))) else none) else none) else (some (.stop (s2, s3)))
noncomputable def impl_sum (a0 : Int) (a1 : Form) (a2 : Form) (a3 : Int) : Option Form :=
  (iter (fun s => impl_sum_l1 a0 a2 a3 s.1 s.2) (0, a1)).bind fun o => match o with | .stop (s2, s3) => (some (s3)) | .ret r => some r | .next _ => none
theorem impl_sum_ok {w0 : World} {a0 : Int} {a1 : Form} {a2 : Form} {a3 : Int}   {r : Form} (hF : impl_sum a0 a1 a2 a3 = some r) :
    Calls Try.prog 77 [.int .i64 a0, .agg (cForm.enc a1).toArray, .agg (cForm.enc a2).toArray, .int .i64 a3].toArray w0 fun e w => ∃ v, e = .returned v ∧ Below w0.heap.size w0 w ∧ .agg (cForm.enc r).toArray = v := by
  refine calls_of (k := 31) Try.func77 rfl rfl (Nat.le_of_ble_eq_true rfl) fun a hf => ?_
  replace hf : Fr 31 a [(0, .int .i64 a0), (1, .agg (cForm.enc a1).toArray), (2, .agg (cForm.enc a2).toArray), (3, .int .i64 a3)] := hf
  refine c_start fun w ρ hw => ?_
  unfold impl_sum at hF
  refine c_seq ?_
  refine c_region ?_
  refine st_ex hf rfl rfl (by decide) (r_box (cs := cForm.enc a1) 1 hw hf rfl rfl) fun a v w hf hΦ => ?_
  obtain ⟨g1, ρ, rfl, hw, hE, o1⟩ := hΦ
  refine st_ex hf rfl rfl (by decide) (r_box (cs := cForm.enc a2) 2 hw hf rfl rfl) fun a v w hf hΦ => ?_
  obtain ⟨g2, ρ, rfl, hw, hE, o2⟩ := hΦ
  replace o1 := o1.ext hE
  refine st_ex hf rfl rfl (by decide) (r_alloc (cs := cForm.enc zForm) 3 ze39 rfl hw) fun a v w hf hΦ => ?_
  obtain ⟨g3, ρ, rfl, hw, hE, o3⟩ := hΦ
  replace o1 := o1.ext hE
  replace o2 := o2.ext hE
  refine c_nt ?_
  refine c_seq ?_
  refine c_seq ?_
  refine c_region ?_
  refine st hf rfl rfl (by decide) (r_move hf rfl) fun a hf => ?_
  refine c_nt ?_
  obtain ⟨ol1, ho1, hG1⟩ := of_bind hF
  clear hF
  refine c_block (c_loop (id := 0) (fun s => impl_sum_l1 a0 a2 a3 s.1 s.2) (fun (s : Int × Form) a w => ∃ ρ, Wd w0 ρ w ∧ Fr 31 a [(0, .int .i64 a0), (3, .int .i64 a3), (5, .pointer (some ((⟨g1, 0, none⟩ : Addr).add 0))), (6, .pointer (some ((⟨g2, 0, none⟩ : Addr).add 0))), (8, .pointer (some ((⟨g3, 0, none⟩ : Addr).add 0))), (10, .int .i64 s.1)] ∧ Va ρ w 1 g1 39 (cForm.enc s.2) ∧ Va ρ w 2 g2 39 (cForm.enc a2) ∧ Va ρ w 3 g3 39 (cForm.enc zForm)) (fun (s : Int × Form) a w => ∃ ρ, Wd w0 ρ w ∧ Fr 31 a [(5, .pointer (some ((⟨g1, 0, none⟩ : Addr).add 0))), (8, .pointer (some ((⟨g3, 0, none⟩ : Addr).add 0)))] ∧ Va ρ w 1 g1 39 (cForm.enc s.2) ∧ Va ρ w 3 g3 39 (cForm.enc zForm)) ho1 ⟨_, hw, hf.sub ⟨rfl, rfl, rfl, rfl, rfl, rfl, trivial⟩, o1, o2, o3⟩ ?_ ?_)
  · rintro ⟨s2, s3⟩ lr a w ⟨ρ, hw, hf, o1, o2, o3⟩ hF
    replace hf : Fr 31 a [(0, .int .i64 a0), (3, .int .i64 a3), (5, .pointer (some ((⟨g1, 0, none⟩ : Addr).add 0))), (6, .pointer (some ((⟨g2, 0, none⟩ : Addr).add 0))), (8, .pointer (some ((⟨g3, 0, none⟩ : Addr).add 0))), (10, .int .i64 s2)] := hf
    replace o1 : Va ρ w 1 g1 39 (cForm.enc s3) := o1
    replace o2 : Va ρ w 2 g2 39 (cForm.enc a2) := o2
    replace o3 : Va ρ w 3 g3 39 (cForm.enc zForm) := o3
    replace hF : impl_sum_l1 a0 a2 a3 s2 s3 = some lr := hF
    unfold impl_sum_l1 at hF
    refine c_seq ?_
    refine c_region ?_
    refine st hf rfl rfl (by decide) (r_lss hf rfl rfl) fun a hf => ?_
    refine c_nt ?_
    refine c_seq ?_
    rcases of_ite hF with ⟨hb4, hF⟩ | ⟨hb4, hF⟩
    · refine c_ift hf rfl hb4 ?_
      refine c_skip ?_
      refine n_then ?_
      refine c_seq ?_
      refine c_block ?_
      refine c_seq ?_
      refine c_region ?_
      refine st hf rfl rfl (by decide) (r_move hf rfl) fun a hf => ?_
      refine st hf rfl rfl (by decide) (r_assign hf rfl) fun a hf => ?_
      refine c_nt ?_
      obtain ⟨hc5, hF⟩ := of_guard hF
      obtain ⟨hc6, hF⟩ := of_guard hF
      replace hf : Fr 31 a [(0, .int .i64 a0), (3, .int .i64 a3), (5, .pointer (some ((⟨g1, 0, none⟩ : Addr).add 0))), (6, .pointer (some ((⟨g2, 0, none⟩ : Addr).add 0))), (8, .pointer (some ((⟨g3, 0, none⟩ : Addr).add 0))), (9, .int .i64 s2), (10, .int .i64 s2)] := hf.sub ⟨rfl, rfl, rfl, rfl, rfl, rfl, rfl, trivial⟩
      refine c_drawL (h := 15) mixed (by kernel_rfl) (by kernel_rfl) (fun ρ w => Va ρ w 1 g1 39 (cForm.enc s3) ∧ Va ρ w 2 g2 39 (cForm.enc a2) ∧ Va ρ w 3 g3 39 (cForm.enc zForm)) ?_ [fun ρ w v => .int .i64 s2 = v, fun ρ w v => .int .i64 s2 = v, fun ρ w v => .pointer (some ((⟨g1, 0, none⟩ : Addr).add (0 + s2.toNat * 1))) = v, fun ρ w v => .int .u8 ((vg 0 s3 s2).toNat : Int) = v, fun ρ w v => .int .i64 ((vg 0 s3 s2).toNat : Int) = v, fun ρ w v => .int .i64 a3 = v, fun ρ w v => .int .i64 s2 = v, fun ρ w v => .pointer (some ((⟨g2, 0, none⟩ : Addr).add (0 + s2.toNat * 1))) = v, fun ρ w v => .int .u8 ((vg 0 a2 s2).toNat : Int) = v, fun ρ w v => .int .i64 ((vg 0 a2 s2).toNat : Int) = v, fun ρ w v => .int .i64 (w64 (a3 * ((vg 0 a2 s2).toNat : Int))) = v, fun ρ w v => .int .i64 (w64 (((vg 0 s3 s2).toNat : Int) + (w64 (a3 * ((vg 0 a2 s2).toNat : Int))))) = v, fun ρ w v => .int .i64 a0 = v, fun ρ w v => .int .i64 ((w64 (((vg 0 s3 s2).toNat : Int) + (w64 (a3 * ((vg 0 a2 s2).toNat : Int))))).tmod a0) = v, fun ρ w v => .int .u8 ((u8 ((w64 (((vg 0 s3 s2).toNat : Int) + (w64 (a3 * ((vg 0 a2 s2).toNat : Int))))).tmod a0)).toNat : Int) = v] ?_ hw ⟨o1, o2, o3⟩ hf ?_ ?_
      · intro ρ w ρ' w' hE hG
        obtain ⟨o1, o2, o3⟩ := hG
        exact ⟨o1.ext hE, o2.ext hE, o3.ext hE⟩
      · exact LastsL.cons (fun _ _ _ _ _ _ h => h) <| LastsL.cons (fun _ _ _ _ _ _ h => h) <| LastsL.cons (fun _ _ _ _ _ _ h => h) <| LastsL.cons (fun _ _ _ _ _ _ h => h) <| LastsL.cons (fun _ _ _ _ _ _ h => h) <| LastsL.cons (fun _ _ _ _ _ _ h => h) <| LastsL.cons (fun _ _ _ _ _ _ h => h) <| LastsL.cons (fun _ _ _ _ _ _ h => h) <| LastsL.cons (fun _ _ _ _ _ _ h => h) <| LastsL.cons (fun _ _ _ _ _ _ h => h) <| LastsL.cons (fun _ _ _ _ _ _ h => h) <| LastsL.cons (fun _ _ _ _ _ _ h => h) <| LastsL.cons (fun _ _ _ _ _ _ h => h) <| LastsL.cons (fun _ _ _ _ _ _ h => h) <| LastsL.cons (fun _ _ _ _ _ _ h => h) <| LastsL.nil
      · refine StepsB.cons ?_ <| StepsB.cons ?_ <| StepsB.cons ?_ <| StepsB.cons ?_ <| StepsB.cons ?_ <| StepsB.cons ?_ <| StepsB.cons ?_ <| StepsB.cons ?_ <| StepsB.cons ?_ <| StepsB.cons ?_ <| StepsB.cons ?_ <| StepsB.cons ?_ <| StepsB.cons ?_ <| StepsB.cons ?_ <| StepsB.cons ?_ <| StepsB.nil
        · intro ρ w a hw hG hf hd K hK
          obtain ⟨o1, o2, o3⟩ := hG
          exact d_val (R := fun ρ w v => .int .i64 s2 = v) hw (wn rfl) (r_move hf rfl) rfl rfl hK
        · intro ρ w a hw hG hf hd K hK
          obtain ⟨o1, o2, o3⟩ := hG
          exact d_val (R := fun ρ w v => .int .i64 s2 = v) hw (wn rfl) (r_move hf rfl) rfl rfl hK
        · intro ρ w a hw hG hf hd K hK
          obtain ⟨o1, o2, o3⟩ := hG
          obtain ⟨_, ht, rfl⟩ := hd 1 (by kernel_rfl)
          replace hf := hf.more ht
          exact d_val (R := fun ρ w v => .pointer (some ((⟨g1, 0, none⟩ : Addr).add (0 + s2.toNat * 1))) = v) hw (wn rfl) (r_indexAddr_arr Try.underlying39 sz5 hf rfl rfl hc5.1 hc5.2) rfl rfl hK
        · intro ρ w a hw hG hf hd K hK
          obtain ⟨o1, o2, o3⟩ := hG
          obtain ⟨_, ht, rfl⟩ := hd 2 (by kernel_rfl)
          replace hf := hf.more ht
          exact d_val (R := fun ρ w v => .int .u8 ((vg 0 s3 s2).toNat : Int) = v) hw (wn rfl) (r_load_cell ty5 hf rfl (o1.cl.lens (Lens.vec 0 fU8 s2 hc5.1 hc5.2))) rfl rfl hK
        · intro ρ w a hw hG hf hd K hK
          obtain ⟨o1, o2, o3⟩ := hG
          obtain ⟨_, ht, rfl⟩ := hd 3 (by kernel_rfl)
          replace hf := hf.more ht
          exact d_val (R := fun ρ w v => .int .i64 ((vg 0 s3 s2).toNat : Int) = v) hw (wn rfl) (r_conv_u8_i64 Try.underlying5 Try.underlying2 hf rfl) rfl rfl hK
        · intro ρ w a hw hG hf hd K hK
          obtain ⟨o1, o2, o3⟩ := hG
          exact d_val (R := fun ρ w v => .int .i64 a3 = v) hw (wn rfl) (r_move hf rfl) rfl rfl hK
        · intro ρ w a hw hG hf hd K hK
          obtain ⟨o1, o2, o3⟩ := hG
          exact d_val (R := fun ρ w v => .int .i64 s2 = v) hw (wn rfl) (r_move hf rfl) rfl rfl hK
        · intro ρ w a hw hG hf hd K hK
          obtain ⟨o1, o2, o3⟩ := hG
          obtain ⟨_, ht, rfl⟩ := hd 6 (by kernel_rfl)
          replace hf := hf.more ht
          exact d_val (R := fun ρ w v => .pointer (some ((⟨g2, 0, none⟩ : Addr).add (0 + s2.toNat * 1))) = v) hw (wn rfl) (r_indexAddr_arr Try.underlying39 sz5 hf rfl rfl hc5.1 hc5.2) rfl rfl hK
        · intro ρ w a hw hG hf hd K hK
          obtain ⟨o1, o2, o3⟩ := hG
          obtain ⟨_, ht, rfl⟩ := hd 7 (by kernel_rfl)
          replace hf := hf.more ht
          exact d_val (R := fun ρ w v => .int .u8 ((vg 0 a2 s2).toNat : Int) = v) hw (wn rfl) (r_load_cell ty5 hf rfl (o2.cl.lens (Lens.vec 0 fU8 s2 hc5.1 hc5.2))) rfl rfl hK
        · intro ρ w a hw hG hf hd K hK
          obtain ⟨o1, o2, o3⟩ := hG
          obtain ⟨_, ht, rfl⟩ := hd 8 (by kernel_rfl)
          replace hf := hf.more ht
          exact d_val (R := fun ρ w v => .int .i64 ((vg 0 a2 s2).toNat : Int) = v) hw (wn rfl) (r_conv_u8_i64 Try.underlying5 Try.underlying2 hf rfl) rfl rfl hK
        · intro ρ w a hw hG hf hd K hK
          obtain ⟨o1, o2, o3⟩ := hG
          obtain ⟨_, ht, rfl⟩ := hd 5 (by kernel_rfl)
          replace hf := hf.more ht
          obtain ⟨_, ht, rfl⟩ := hd 9 (by kernel_rfl)
          replace hf := hf.more ht
          exact d_val (R := fun ρ w v => .int .i64 (w64 (a3 * ((vg 0 a2 s2).toNat : Int))) = v) hw (wn rfl) (r_mul hf rfl rfl) rfl rfl hK
        · intro ρ w a hw hG hf hd K hK
          obtain ⟨o1, o2, o3⟩ := hG
          obtain ⟨_, ht, rfl⟩ := hd 4 (by kernel_rfl)
          replace hf := hf.more ht
          obtain ⟨_, ht, rfl⟩ := hd 10 (by kernel_rfl)
          replace hf := hf.more ht
          exact d_val (R := fun ρ w v => .int .i64 (w64 (((vg 0 s3 s2).toNat : Int) + (w64 (a3 * ((vg 0 a2 s2).toNat : Int))))) = v) hw (wn rfl) (r_add hf rfl rfl) rfl rfl hK
        · intro ρ w a hw hG hf hd K hK
          obtain ⟨o1, o2, o3⟩ := hG
          exact d_val (R := fun ρ w v => .int .i64 a0 = v) hw (wn rfl) (r_move hf rfl) rfl rfl hK
        · intro ρ w a hw hG hf hd K hK
          obtain ⟨o1, o2, o3⟩ := hG
          obtain ⟨_, ht, rfl⟩ := hd 11 (by kernel_rfl)
          replace hf := hf.more ht
          obtain ⟨_, ht, rfl⟩ := hd 12 (by kernel_rfl)
          replace hf := hf.more ht
          exact d_val (R := fun ρ w v => .int .i64 ((w64 (((vg 0 s3 s2).toNat : Int) + (w64 (a3 * ((vg 0 a2 s2).toNat : Int))))).tmod a0) = v) hw (wn rfl) (r_rem hf rfl rfl hc6) rfl rfl hK
        · intro ρ w a hw hG hf hd K hK
          obtain ⟨o1, o2, o3⟩ := hG
          obtain ⟨_, ht, rfl⟩ := hd 13 (by kernel_rfl)
          replace hf := hf.more ht
          exact d_val (R := fun ρ w v => .int .u8 ((u8 ((w64 (((vg 0 s3 s2).toNat : Int) + (w64 (a3 * ((vg 0 a2 s2).toNat : Int))))).tmod a0)).toNat : Int) = v) hw (wn rfl) (r_conv_i64_u8 Try.underlying2 Try.underlying5 hf rfl) rfl rfl hK
      · intro ρ w a hw hG hf hd
        obtain ⟨o1, o2, o3⟩ := hG
        replace hf : Fr 31 a [(0, .int .i64 a0), (3, .int .i64 a3), (5, .pointer (some ((⟨g1, 0, none⟩ : Addr).add 0))), (6, .pointer (some ((⟨g2, 0, none⟩ : Addr).add 0))), (8, .pointer (some ((⟨g3, 0, none⟩ : Addr).add 0))), (9, .int .i64 s2), (10, .int .i64 s2)] := hf
        obtain ⟨_, ht, rfl⟩ := hd 0 (by decide)
        replace hf := hf.more ht
        obtain ⟨_, ht, rfl⟩ := hd 14 (by decide)
        replace hf := hf.more ht
        refine st hf rfl rfl (by decide) (r_indexAddr_arr Try.underlying39 sz5 hf rfl rfl hc5.1 hc5.2) fun a hf => ?_
        refine st_skip hf rfl rfl (r_store_l (b := u8 ((w64 (((vg 0 s3 s2).toNat : Int) + (w64 (a3 * ((vg 0 a2 s2).toNat : Int))))).tmod a0)) hw o1 (by decide) (Lens.vec 0 fU8 s2 hc5.1 hc5.2) (by simp only [Nat.zero_add] <;> rfl) ty5 hf rfl rfl rfl) fun a w hf hΦ => ?_
        obtain ⟨hw, hA, o1⟩ := hΦ
        replace o2 := o2.adv hA (by decide)
        replace o3 := o3.adv hA (by decide)
        refine c_nil ?_
        refine n_block ?_
        refine n_then ?_
        refine c_region ?_
        refine st hf rfl rfl (by decide) (r_add hf rfl rfl) fun a hf => ?_
        refine st hf rfl rfl (by decide) (r_move hf rfl) fun a hf => ?_
        refine c_nil ?_
        obtain rfl := Option.some.inj hF
        exact Rnd.goes ⟨_, hw, hf.sub ⟨rfl, rfl, rfl, rfl, rfl, rfl, trivial⟩, o1, o2, o3⟩
    · refine c_iff hf rfl hb4 ?_
      refine c_exit ?_
      refine x_then ?_
      obtain rfl := Option.some.inj hF
      exact Rnd.stops ⟨_, hw, hf.sub ⟨rfl, rfl, trivial⟩, o1, o3⟩
  · rintro ⟨s2, s3⟩ a w hs ⟨ρ, hw, hf, o1, o3⟩
    subst hs
    replace hf : Fr 31 a [(5, .pointer (some ((⟨g1, 0, none⟩ : Addr).add 0))), (8, .pointer (some ((⟨g3, 0, none⟩ : Addr).add 0)))] := hf
    replace o1 : Va ρ w 1 g1 39 (cForm.enc s3) := o1
    replace o3 : Va ρ w 3 g3 39 (cForm.enc zForm) := o3
    have hF := hG1
    dsimp only at hF
    refine x_block ?_
    refine n_then ?_
    refine c_seq ?_
    refine c_region ?_
    refine st hf rfl rfl (by decide) (r_load_agg ty39 hf rfl o1.cl (cForm.len _)) fun a hf => ?_
    refine st_skip hf rfl rfl (r_store_w (cs' := cForm.enc s3) hw o3 (by decide) ty39 (cForm.len _) (cForm.len _) (cForm.one _) hf rfl rfl rfl) fun a w hf hΦ => ?_
    obtain ⟨hw, hA, o3⟩ := hΦ
    replace o1 := o1.adv hA (by decide)
    refine c_nt ?_
    refine c_retc ?_
    obtain rfl := Option.some.inj hF
    refine c_ret hf (res_cell Try.results77 ty39 hf rfl o3.cl (cForm.len _)) ?_
    exact ⟨_, rfl, hw.below, rfl⟩
/-! f162s133 -/
noncomputable def slices_IndexFunc_162_f133_l1 (a0 : List Prod) (s2 : Int) : Option (LR Int Int) :=
  if (decide (s2 < (a0.length : Int))) = true then (if 0 ≤ s2 ∧ s2 < (a0.length : Int) then ((impl_hasZero (gl zProd a0 s2)).bind fun x6 => if x6 = true then (some (.ret s2)) else (some (.next (w64 (s2 + 1))))) else none) else (some (.stop s2))
noncomputable def slices_IndexFunc_162_f133 (a0 : List Prod) : Option Int :=
  (iter (fun s => slices_IndexFunc_162_f133_l1 a0 s) 0).bind fun o => match o with | .stop s2 => (some ((-1))) | .ret r => some r | .next _ => none
theorem slices_IndexFunc_162_f133_ok {w0 : World} {a0 : List Prod} {va0 : Value} (h0 : Ro (kf cProd) w0 va0 a0) {r : Int} (hF : slices_IndexFunc_162_f133 a0 = some r) :
    Calls Try.prog 162 [va0, .func (.func 133) #[] #[]].toArray w0 fun e w => ∃ v, e = .returned v ∧ Below w0.heap.size w0 w ∧ .int .i64 r = v := by
  refine calls_of (k := 19) Try.func162 rfl rfl (Nat.le_of_ble_eq_true rfl) fun a hf => ?_
  replace hf : Fr 19 a [(0, va0), (1, .func (.func 133) #[] #[])] := hf
  refine c_start fun w ρ hw => ?_
  unfold slices_IndexFunc_162_f133 at hF
  refine c_seq ?_
  refine c_region ?_
  refine st hf rfl rfl (by decide) (r_assign hf rfl) fun a hf => ?_
  refine c_nt ?_
  refine c_seq ?_
  refine c_seq ?_
  refine c_region ?_
  refine st hf rfl rfl (by decide) (r_move hf rfl) fun a hf => ?_
  refine st hf rfl rfl (by decide) (r_len Try.underlying26 (h0.now hw) hf rfl) fun a hf => ?_
  refine st hf rfl rfl (by decide) (r_move hf rfl) fun a hf => ?_
  refine c_nt ?_
  obtain ⟨ol1, ho1, hG1⟩ := of_bind hF
  clear hF
  refine c_block (c_loop (id := 0) (fun s => slices_IndexFunc_162_f133_l1 a0 s) (fun (s : Int) a w => ∃ ρ, Wd w0 ρ w ∧ Fr 19 a [(0, va0), (1, .func (.func 133) #[] #[]), (7, .int .i64 (a0.length : Int)), (8, .int .i64 s)]) (fun (s : Int) a w => ∃ ρ, Wd w0 ρ w ∧ Fr 19 a []) ho1 ⟨_, hw, hf.sub ⟨rfl, rfl, rfl, rfl, trivial⟩⟩ ?_ ?_)
  · rintro s2 lr a w ⟨ρ, hw, hf⟩ hF
    replace hf : Fr 19 a [(0, va0), (1, .func (.func 133) #[] #[]), (7, .int .i64 (a0.length : Int)), (8, .int .i64 s2)] := hf
    replace hF : slices_IndexFunc_162_f133_l1 a0 s2 = some lr := hF
    unfold slices_IndexFunc_162_f133_l1 at hF
    refine c_seq ?_
    refine c_region ?_
    refine st hf rfl rfl (by decide) (r_lss hf rfl rfl) fun a hf => ?_
    refine c_nt ?_
    refine c_seq ?_
    rcases of_ite hF with ⟨hb3, hF⟩ | ⟨hb3, hF⟩
    · refine c_ift hf rfl hb3 ?_
      refine c_skip ?_
      refine n_then ?_
      refine c_seq ?_
      refine c_block ?_
      refine c_seq ?_
      refine c_region ?_
      refine st hf rfl rfl (by decide) (r_move hf rfl) fun a hf => ?_
      refine st hf rfl rfl (by decide) (r_assign hf rfl) fun a hf => ?_
      refine c_nt ?_
      refine c_seq ?_
      refine c_region ?_
      refine st hf rfl rfl (by decide) (r_move hf rfl) fun a hf => ?_
      refine st hf rfl rfl (by decide) (r_move hf rfl) fun a hf => ?_
      refine st hf rfl rfl (by decide) (r_move hf rfl) fun a hf => ?_
      obtain ⟨hc4, hF⟩ := of_guard hF
      obtain ⟨ad5, c5, he5, hl5⟩ := Ro.el cProd h0 zProd hc4.1 hc4.2
      refine st hf rfl rfl (by decide) (r_idx Try.underlying26 sz78 hf rfl ⟨_, he5⟩ rfl hc4.1 hc4.2) fun a hf => ?_
      refine st hf rfl rfl (by decide) (r_load_agg ty78 hf rfl (hl5.below hw.below) (cProd.len _)) fun a hf => ?_
      obtain ⟨x6, hx7, hF⟩ := of_bind hF
      refine st_fn 1 hw hf rfl rfl (by decide) (r_fnv en133 hf rfl rfl) (impl_hasZero_ok  hx7) fun a v w ρ hf hw hE hN hΦ => ?_
      obtain rfl := hΦ
      refine c_nt ?_
      rcases of_ite hF with ⟨hb8, hF⟩ | ⟨hb8, hF⟩
      · refine c_ift hf rfl hb8 ?_
        refine c_seq ?_
        refine c_region ?_
        refine st hf rfl rfl (by decide) (r_move hf rfl) fun a hf => ?_
        refine st hf rfl rfl (by decide) (r_assign hf rfl) fun a hf => ?_
        refine c_nt ?_
        refine c_retc ?_
        obtain rfl := Option.some.inj hF
        refine r_block ?_
        refine r_then ?_
        refine Rnd.rets fun ho => ?_
        subst ho
        have hF := hG1
        dsimp only at hF
        obtain rfl := Option.some.inj hF
        refine r_block ?_
        refine r_then ?_
        refine c_ret hf (res_tmp Try.results162 hf rfl) ?_
        exact ⟨_, rfl, hw.below, rfl⟩
      · refine c_iff hf rfl hb8 ?_
        refine c_skip ?_
        refine n_block ?_
        refine n_then ?_
        refine c_region ?_
        refine st hf rfl rfl (by decide) (r_add hf rfl rfl) fun a hf => ?_
        refine st hf rfl rfl (by decide) (r_move hf rfl) fun a hf => ?_
        refine c_nil ?_
        obtain rfl := Option.some.inj hF
        exact Rnd.goes ⟨_, hw, hf.sub ⟨rfl, rfl, rfl, rfl, trivial⟩⟩
    · refine c_iff hf rfl hb3 ?_
      refine c_exit ?_
      refine x_then ?_
      obtain rfl := Option.some.inj hF
      exact Rnd.stops ⟨_, hw, hf.sub trivial⟩
  · rintro s2 a w hs ⟨ρ, hw, hf⟩
    subst hs
    replace hf : Fr 19 a [] := hf
    have hF := hG1
    dsimp only at hF
    refine x_block ?_
    refine n_then ?_
    refine c_seq ?_
    refine c_region ?_
    refine st hf rfl rfl (by decide) (r_assign hf rfl) fun a hf => ?_
    refine c_nt ?_
    refine c_retc ?_
    obtain rfl := Option.some.inj hF
    refine c_ret hf (res_tmp Try.results162 hf rfl) ?_
    exact ⟨_, rfl, hw.below, rfl⟩
/-! f132s133 -/
noncomputable def slices_DeleteFunc_132_f133_l4  (s5 : Int) (s6 : Int) (s7 : List Prod) : Option (LR (Int × Int × (List Prod)) (List Prod)) :=
  if (decide (s6 < (s7.length : Int))) = true then (if 0 ≤ s6 ∧ s6 < (s7.length : Int) then ((impl_hasZero (gl zProd s7 s6)).bind fun x11 => if (!x11) = true then (if 0 ≤ s5 ∧ s5 < (s7.length : Int) then (some (.next (w64 (s5 + 1), w64 (s6 + 1), (s7.set s5.toNat (gl zProd s7 s6))))) else none) else (some (.next (s5, w64 (s6 + 1), s7)))) else none) else (some (.stop (s5, s6, s7)))
noncomputable def slices_DeleteFunc_132_f133 (a0 : List Prod) : Option (List Prod) :=
  (slices_IndexFunc_162_f133 a0).bind fun x1 => if (decide (x1 = (-1))) = true then (some (a0)) else ((iter (fun s => slices_DeleteFunc_132_f133_l4  s.1 s.2.1 s.2.2) (x1, w64 (x1 + 1), a0)).bind fun o => match o with | .stop (s5, s6, s7) => (if 0 ≤ s5 ∧ s5 ≤ (s7.length : Int) then (if (0 : Int) ≤ s5 ∧ s5 ≤ ((s7.take s5.toNat ++ List.replicate (s7.length - s5.toNat) zProd).length : Int) then (some (((s7.take s5.toNat ++ List.replicate (s7.length - s5.toNat) zProd).take s5.toNat))) else none) else none) | .ret r => some r | .next _ => none)
theorem slices_DeleteFunc_132_f133_ok {w0 ws : World} {ρ0 : Nat → Nat} {i : Nat} (hi : i ≠ 0) (hW : Wd w0 ρ0 ws) {a0 : List Prod} {va0 : Value} (h0 : Ow (kf cProd) 78 ρ0 ws w0.heap.size i va0 a0) {r : List Prod} (hF : slices_DeleteFunc_132_f133 a0 = some r) :
    Calls Try.prog 132 [va0, .func (.func 133) #[] #[]].toArray ws fun e w => ∃ v, e = .returned v ∧ ∃ ρ', Wd w0 ρ' w ∧ Adv i ρ0 ws ρ' w ∧ ∃ u0, u0 = v ∧ Ow (kf cProd) 78 ρ' w w0.heap.size i u0 r := by
  refine calls_of (k := 42) Try.func132 rfl rfl (Nat.le_of_ble_eq_true rfl) fun a hf => ?_
  replace hf : Fr 42 a [(0, va0), (1, .func (.func 133) #[] #[])] := hf
  refine c_startm hi hW h0 fun w ρ hw oA o1 => ?_
  unfold slices_DeleteFunc_132_f133 at hF
  refine c_seq ?_
  refine c_region ?_
  have o2 : Ow (kf cProd) 78 ρ w w0.heap.size 2 (.slice none 0 0) [] := Ow.nil _ _ _ _ _ _
  refine st hf rfl rfl (by decide) (r_assign hf rfl) fun a hf => ?_
  refine c_nt ?_
  refine c_seq ?_
  refine c_region ?_
  refine st hf rfl rfl (by decide) (r_move hf rfl) fun a hf => ?_
  refine st hf rfl rfl (by decide) (r_move hf rfl) fun a hf => ?_
  obtain ⟨x1, hx2, hF⟩ := of_bind hF
  refine st_fn 3 hw hf rfl rfl (by decide) (r_fn en162 hf rfl) (slices_IndexFunc_162_f133_ok o1.ro hx2) fun a v w ρ hf hw hE hN hΦ => ?_
  obtain rfl := hΦ
  replace oA := oA.ext hE
  replace o1 := o1.ext hE
  replace o2 := o2.ext hE
  refine st hf rfl rfl (by decide) (r_assign hf rfl) fun a hf => ?_
  refine c_nt ?_
  refine c_seq ?_
  refine c_seq ?_
  refine c_region ?_
  refine st hf rfl rfl (by decide) (r_move hf rfl) fun a hf => ?_
  refine st hf rfl rfl (by decide) (r_eql hf rfl rfl) fun a hf => ?_
  refine c_nt ?_
  rcases of_ite hF with ⟨hb3, hF⟩ | ⟨hb3, hF⟩
  · refine c_ift hf rfl hb3 ?_
    refine c_seq ?_
    refine c_region ?_
    refine st hf rfl rfl (by decide) (r_move hf rfl) fun a hf => ?_
    refine st hf rfl rfl (by decide) (r_assign hf rfl) fun a hf => ?_
    refine c_nt ?_
    refine c_retc ?_
    obtain rfl := Option.some.inj hF
    refine r_then ?_
    refine c_ret hf (res_tmp Try.results132 hf rfl) ?_
    exact ⟨_, rfl, _, m_wd hW hw oA, m_adv oA, _, rfl, m_ow oA o1⟩
  · refine c_iff hf rfl hb3 ?_
    refine c_skip ?_
    refine n_then ?_
    refine c_seq ?_
    refine c_seq ?_
    refine c_region ?_
    refine st hf rfl rfl (by decide) (r_move hf rfl) fun a hf => ?_
    refine st hf rfl rfl (by decide) (r_add hf rfl rfl) fun a hf => ?_
    refine st hf rfl rfl (by decide) (r_assign hf rfl) fun a hf => ?_
    refine c_nt ?_
    obtain ⟨ol4, ho4, hG4⟩ := of_bind hF
    clear hF
    refine c_block (c_loop (id := 0) (fun s => slices_DeleteFunc_132_f133_l4  s.1 s.2.1 s.2.2) (fun (s : Int × Int × (List Prod)) a w => ∃ ρ, Wd w0 ρ w ∧ Fr 42 a [(0, va0), (1, .func (.func 133) #[] #[]), (5, .int .i64 s.1), (6, .int .i64 s.2.1)] ∧ Old (oneOf ρ0 i) ws ρ w ∧ Ow (kf cProd) 78 ρ w w0.heap.size 1 va0 s.2.2) (fun (s : Int × Int × (List Prod)) a w => ∃ ρ, Wd w0 ρ w ∧ Fr 42 a [(0, va0), (5, .int .i64 s.1)] ∧ Old (oneOf ρ0 i) ws ρ w ∧ Ow (kf cProd) 78 ρ w w0.heap.size 1 va0 s.2.2) ho4 ⟨_, hw, hf.sub ⟨rfl, rfl, rfl, rfl, trivial⟩, oA, o1⟩ ?_ ?_)
    · rintro ⟨s5, s6, s7⟩ lr a w ⟨ρ, hw, hf, oA, o1⟩ hF
      replace hf : Fr 42 a [(0, va0), (1, .func (.func 133) #[] #[]), (5, .int .i64 s5), (6, .int .i64 s6)] := hf
      replace oA : Old (oneOf ρ0 i) ws ρ w := oA
      replace o1 : Ow (kf cProd) 78 ρ w w0.heap.size 1 va0 s7 := o1
      replace hF : slices_DeleteFunc_132_f133_l4  s5 s6 s7 = some lr := hF
      unfold slices_DeleteFunc_132_f133_l4 at hF
      refine c_seq ?_
      refine c_seq ?_
      refine c_region ?_
      refine st hf rfl rfl (by decide) (r_move hf rfl) fun a hf => ?_
      refine st hf rfl rfl (by decide) (r_move hf rfl) fun a hf => ?_
      refine st hf rfl rfl (by decide) (r_len Try.underlying26 o1.ro hf rfl) fun a hf => ?_
      refine st hf rfl rfl (by decide) (r_lss hf rfl rfl) fun a hf => ?_
      refine c_nt ?_
      rcases of_ite hF with ⟨hb8, hF⟩ | ⟨hb8, hF⟩
      · refine c_ift hf rfl hb8 ?_
        refine c_skip ?_
        refine n_then ?_
        refine c_seq ?_
        refine c_block ?_
        refine c_seq ?_
        refine c_region ?_
        refine st hf rfl rfl (by decide) (r_move hf rfl) fun a hf => ?_
        refine st hf rfl rfl (by decide) (r_move hf rfl) fun a hf => ?_
        obtain ⟨hc9, hF⟩ := of_guard hF
        obtain ⟨ad10, hl10⟩ := Ow.ce (d := cProd) o1 zProd hc9.1 hc9.2
        refine st hf rfl rfl (by decide) (r_idx Try.underlying26 sz78 hf rfl hl10.at_ rfl hc9.1 hc9.2) fun a hf => ?_
        refine st hf rfl rfl (by decide) (r_load_agg ty78 hf rfl hl10.co.cl (cProd.len _)) fun a hf => ?_
        refine st_ex hf rfl rfl (by decide) (r_alloc (cs := cProd.enc zProd) 5 ze78 rfl hw) fun a v w hf hΦ => ?_
        obtain ⟨g5, ρ, rfl, hw, hE, o5⟩ := hΦ
        replace oA := oA.ext hE
        replace o1 := o1.ext hE
        replace hl10 := hl10.ext hE
        refine st_skip hf rfl rfl (r_store_w (cs' := cProd.enc (gl zProd s7 s6)) hw o5 (by decide) ty78 (cProd.len _) (cProd.len _) (cProd.one _) hf rfl rfl rfl) fun a w hf hΦ => ?_
        obtain ⟨hw, hA, o5⟩ := hΦ
        replace oA := oA.adv hA (by decide)
        replace o1 := o1.adv hA (by decide)
        replace hl10 := hl10.adv hA (by decide)
        refine c_nt ?_
        refine c_seq ?_
        refine c_region ?_
        refine st hf rfl rfl (by decide) (r_move hf rfl) fun a hf => ?_
        refine st hf rfl rfl (by decide) (r_load_agg ty78 hf rfl o5.cl (cProd.len _)) fun a hf => ?_
        obtain ⟨x11, hx12, hF⟩ := of_bind hF
        refine st_fn 6 hw hf rfl rfl (by decide) (r_fnv en133 hf rfl rfl) (impl_hasZero_ok  hx12) fun a v w ρ hf hw hE hN hΦ => ?_
        obtain rfl := hΦ
        replace oA := oA.ext hE
        replace o1 := o1.ext hE
        replace hl10 := hl10.ext hE
        replace o5 := o5.ext hE
        refine st hf rfl rfl (by decide) (r_not hf rfl) fun a hf => ?_
        refine c_nt ?_
        rcases of_ite hF with ⟨hb13, hF⟩ | ⟨hb13, hF⟩
        · refine c_ift hf rfl hb13 ?_
          refine c_seq ?_
          refine c_region ?_
          refine st hf rfl rfl (by decide) (r_move hf rfl) fun a hf => ?_
          refine st hf rfl rfl (by decide) (r_move hf rfl) fun a hf => ?_
          refine st hf rfl rfl (by decide) (r_load_agg ty78 hf rfl o5.cl (cProd.len _)) fun a hf => ?_
          obtain ⟨hc14, hF⟩ := of_guard hF
          obtain ⟨ad15, hl15⟩ := Ow.ce (d := cProd) o1 zProd hc14.1 hc14.2
          refine st hf rfl rfl (by decide) (r_idx Try.underlying26 sz78 hf rfl hl15.at_ rfl hc14.1 hc14.2) fun a hf => ?_
          refine st_skip hf rfl rfl (r_store_ec (b := gl zProd s7 s6) zProd hw (by decide) o1 hc14.1 hc14.2 (Lens.id _) hl15.at_ ty78 (by first | rfl | exact Nat.add_assoc _ _ _ | (simp only [Nat.add_assoc]; rfl)) hf rfl rfl rfl) fun a w hf hΦ => ?_
          obtain ⟨hw, hA, o1⟩ := hΦ
          replace oA := oA.adv hA (by decide)
          replace o5 := o5.adv hA (by decide)
          refine c_nt ?_
          refine c_region ?_
          refine st hf rfl rfl (by decide) (r_move hf rfl) fun a hf => ?_
          refine st hf rfl rfl (by decide) (r_add hf rfl rfl) fun a hf => ?_
          refine st hf rfl rfl (by decide) (r_assign hf rfl) fun a hf => ?_
          refine c_nil ?_
          refine n_block ?_
          refine n_then ?_
          refine c_region ?_
          refine st hf rfl rfl (by decide) (r_move hf rfl) fun a hf => ?_
          refine st hf rfl rfl (by decide) (r_add hf rfl rfl) fun a hf => ?_
          refine st hf rfl rfl (by decide) (r_assign hf rfl) fun a hf => ?_
          refine c_nil ?_
          obtain rfl := Option.some.inj hF
          exact Rnd.goes ⟨_, hw, hf.sub ⟨rfl, rfl, rfl, rfl, trivial⟩, oA, o1⟩
        · refine c_iff hf rfl hb13 ?_
          refine c_skip ?_
          refine n_block ?_
          refine n_then ?_
          refine c_region ?_
          refine st hf rfl rfl (by decide) (r_move hf rfl) fun a hf => ?_
          refine st hf rfl rfl (by decide) (r_add hf rfl rfl) fun a hf => ?_
          refine st hf rfl rfl (by decide) (r_assign hf rfl) fun a hf => ?_
          refine c_nil ?_
          obtain rfl := Option.some.inj hF
          exact Rnd.goes ⟨_, hw, hf.sub ⟨rfl, rfl, rfl, rfl, trivial⟩, oA, o1⟩
      · refine c_iff hf rfl hb8 ?_
        refine c_exit ?_
        refine x_then ?_
        obtain rfl := Option.some.inj hF
        exact Rnd.stops ⟨_, hw, hf.sub ⟨rfl, rfl, trivial⟩, oA, o1⟩
    · rintro ⟨s5, s6, s7⟩ a w hs ⟨ρ, hw, hf, oA, o1⟩
      subst hs
      replace hf : Fr 42 a [(0, va0), (5, .int .i64 s5)] := hf
      replace oA : Old (oneOf ρ0 i) ws ρ w := oA
      replace o1 : Ow (kf cProd) 78 ρ w w0.heap.size 1 va0 s7 := o1
      have hF := hG4
      dsimp only at hF
      refine x_block ?_
      refine n_then ?_
      refine c_seq ?_
      refine c_region ?_
      refine st hf rfl rfl (by decide) (r_move hf rfl) fun a hf => ?_
      refine st hf rfl rfl (by decide) (r_move hf rfl) fun a hf => ?_
      obtain ⟨hc16, hF⟩ := of_guard hF
      have o8 : Ro (kf cProd) w (cutV va0 s5.toNat (s7.length : Int).toNat 27) ((s7.take (s7.length : Int).toNat).drop s5.toNat) := ro_cutV o1.ro hc16.1 hc16.2 (Int.le_refl _)
      refine st hf rfl rfl (by decide) (r_cut_v (lo := s5) (hi := (s7.length : Int)) Try.underlying26 sz78 rfl o1.ro hf rfl (.inr ⟨_, rfl, rfl⟩) (.inl ⟨rfl, rfl⟩) hc16.1 hc16.2 (Int.le_refl _)) fun a hf => ?_
      refine st_nod hf rfl rfl (r_clear (z := zProd) (lo := s5) (hi := (s7.length : Int)) hw (by decide) o1 hc16.1 hc16.2 rfl Try.underlying26 el78 rfl hf rfl) fun a w hf hΦ => ?_
      obtain ⟨hw, hA, o1⟩ := hΦ
      replace oA := oA.adv hA (by decide)
      refine c_nt ?_
      refine c_seq ?_
      refine c_region ?_
      refine st hf rfl rfl (by decide) (r_move hf rfl) fun a hf => ?_
      refine st hf rfl rfl (by decide) (r_move hf rfl) fun a hf => ?_
      obtain ⟨hc17, hF⟩ := of_guard hF
      refine st hf rfl rfl (by decide) (r_cut_v (lo := 0) (hi := s5) Try.underlying26 sz78 rfl o1.ro hf rfl (.inl ⟨rfl, rfl⟩) (.inr ⟨_, rfl, rfl⟩) (Int.le_refl 0) hc17.1 hc17.2) fun a hf => ?_
      replace o1 : Ow (kf cProd) 78 ρ w w0.heap.size 1 (cutV va0 0 s5.toNat 27) ((s7.take s5.toNat ++ List.replicate (s7.length - s5.toNat) zProd).take s5.toNat) := Ow.take o1 (Int.le_trans (Int.le_refl 0) hc17.1) hc17.2 27
      refine st hf rfl rfl (by decide) (r_assign hf rfl) fun a hf => ?_
      refine c_nt ?_
      refine c_retc ?_
      obtain rfl := Option.some.inj hF
      refine c_ret hf (res_tmp Try.results132 hf rfl) ?_
      exact ⟨_, rfl, _, m_wd hW hw oA, m_adv oA, _, rfl, m_ow oA o1⟩
/-! f79 -/
noncomputable def impl_kept (a0 : List Prod) : Option (List Prod) :=
  (slices_DeleteFunc_132_f133 a0).bind fun x1 => some (x1)
theorem impl_kept_ok {w0 ws : World} {ρ0 : Nat → Nat} {i : Nat} (hi : i ≠ 0) (hW : Wd w0 ρ0 ws) {a0 : List Prod} {va0 : Value} (h0 : Ow (kf cProd) 78 ρ0 ws w0.heap.size i va0 a0) {r : List Prod} (hF : impl_kept a0 = some r) :
    Calls Try.prog 79 [va0].toArray ws fun e w => ∃ v, e = .returned v ∧ ∃ ρ', Wd w0 ρ' w ∧ Adv i ρ0 ws ρ' w ∧ ∃ u0, u0 = v ∧ Ow (kf cProd) 78 ρ' w w0.heap.size i u0 r := by
  refine calls_of (k := 5) Try.func79 rfl rfl (Nat.le_of_ble_eq_true rfl) fun a hf => ?_
  replace hf : Fr 5 a [(0, va0)] := hf
  refine c_startm hi hW h0 fun w ρ hw oA o1 => ?_
  unfold impl_kept at hF
  refine c_seq ?_
  refine c_region ?_
  have o2 : Ow (kf cProd) 78 ρ w w0.heap.size 2 (.slice none 0 0) [] := Ow.nil _ _ _ _ _ _
  refine st hf rfl rfl (by decide) (r_assign hf rfl) fun a hf => ?_
  refine c_nt ?_
  refine c_seq ?_
  refine c_region ?_
  refine st hf rfl rfl (by decide) (r_move hf rfl) fun a hf => ?_
  obtain ⟨x1, hx2, hF⟩ := of_bind hF
  refine st_mfn hf rfl rfl (by decide) (r_fn en132 hf rfl) (slices_DeleteFunc_132_f133_ok (by decide) hw o1 hx2) fun a v w ρ hf hw hA hΦ => ?_
  obtain ⟨u3, rfl, o1⟩ := hΦ
  replace oA := oA.adv hA (by decide)
  replace o2 := o2.adv hA (by decide)
  refine st hf rfl rfl (by decide) (r_assign hf rfl) fun a hf => ?_
  refine c_nt ?_
  refine c_retc ?_
  obtain rfl := Option.some.inj hF
  refine c_ret hf (res_tmp Try.results79 hf rfl) ?_
  exact ⟨_, rfl, _, m_wd hW hw oA, m_adv oA, _, rfl, m_ow oA o1⟩
/-! f70 -/
noncomputable def spec_l03Numbers_l1 (a0 : Sch) (a1 : List Int) (s2 : Int) : Option (LR Int Bool) :=
  if (decide (s2 < (a1.length : Int))) = true then (if 0 ≤ s2 ∧ s2 < (a1.length : Int) then ((spec_l01In (gl 0 a1 s2) 0 (w64 ((a0.ps.length : Int) - 1))).bind fun x6 => if (!x6) = true then (some (.ret false)) else (some (.next (w64 (s2 + 1))))) else none) else (some (.stop s2))
noncomputable def spec_l03Numbers (a0 : Sch) (a1 : List Int) : Option Bool :=
  (iter (fun s => spec_l03Numbers_l1 a0 a1 s) 0).bind fun o => match o with | .stop s2 => (some (true)) | .ret r => some r | .next _ => none
theorem spec_l03Numbers_ok {w0 : World} {a0 : Sch} {a1 : List Int} {va0 : Value} {va1 : Value} (h0 : Ro (kf cProd) w0 va0 a0.ps) (h1 : Ro (kf fI64) w0 va1 a1) {r : Bool} (hF : spec_l03Numbers a0 a1 = some r) :
    Calls Try.prog 70 [.agg ([.int .i64 a0.p, .int .i64 a0.n, .int .i64 a0.m, .int .i64 a0.k, va0]).toArray, va1].toArray w0 fun e w => ∃ v, e = .returned v ∧ Below w0.heap.size w0 w ∧ .bool r = v := by
  refine calls_of (k := 22) Try.func70 rfl rfl (Nat.le_of_ble_eq_true rfl) fun a hf => ?_
  replace hf : Fr 22 a [(0, .agg ([.int .i64 a0.p, .int .i64 a0.n, .int .i64 a0.m, .int .i64 a0.k, va0]).toArray), (1, va1)] := hf
  refine c_start fun w ρ hw => ?_
  unfold spec_l03Numbers at hF
  refine c_seq ?_
  refine c_region ?_
  refine st_ex hf rfl rfl (by decide) (r_box (cs := [.int .i64 a0.p, .int .i64 a0.n, .int .i64 a0.m, .int .i64 a0.k, va0]) 1 hw hf rfl rfl) fun a v w hf hΦ => ?_
  obtain ⟨g1, ρ, rfl, hw, hE, o1⟩ := hΦ
  refine st hf rfl rfl (by decide) (r_assign hf rfl) fun a hf => ?_
  refine c_nt ?_
  refine c_seq ?_
  refine c_seq ?_
  refine c_region ?_
  refine st hf rfl rfl (by decide) (r_assign hf rfl) fun a hf => ?_
  refine c_nt ?_
  obtain ⟨ol1, ho1, hG1⟩ := of_bind hF
  clear hF
  refine c_block (c_loop (id := 0) (fun s => spec_l03Numbers_l1 a0 a1 s) (fun (s : Int) a w => ∃ ρ, Wd w0 ρ w ∧ Fr 22 a [(1, va1), (2, .pointer (some ((⟨g1, 0, none⟩ : Addr).add 0))), (5, .int .i64 s)] ∧ Va ρ w 1 g1 28 ([.int .i64 a0.p, .int .i64 a0.n, .int .i64 a0.m, .int .i64 a0.k, va0])) (fun (s : Int) a w => ∃ ρ, Wd w0 ρ w ∧ Fr 22 a []) ho1 ⟨_, hw, hf.sub ⟨rfl, rfl, rfl, trivial⟩, o1⟩ ?_ ?_)
  · rintro s2 lr a w ⟨ρ, hw, hf, o1⟩ hF
    replace hf : Fr 22 a [(1, va1), (2, .pointer (some ((⟨g1, 0, none⟩ : Addr).add 0))), (5, .int .i64 s2)] := hf
    replace o1 : Va ρ w 1 g1 28 ([.int .i64 a0.p, .int .i64 a0.n, .int .i64 a0.m, .int .i64 a0.k, va0]) := o1
    replace hF : spec_l03Numbers_l1 a0 a1 s2 = some lr := hF
    unfold spec_l03Numbers_l1 at hF
    refine c_seq ?_
    refine c_seq ?_
    refine c_region ?_
    refine st hf rfl rfl (by decide) (r_move hf rfl) fun a hf => ?_
    refine st hf rfl rfl (by decide) (r_move hf rfl) fun a hf => ?_
    refine st hf rfl rfl (by decide) (r_len Try.underlying61 (h1.now hw) hf rfl) fun a hf => ?_
    refine st hf rfl rfl (by decide) (r_lss hf rfl rfl) fun a hf => ?_
    refine c_nt ?_
    rcases of_ite hF with ⟨hb3, hF⟩ | ⟨hb3, hF⟩
    · refine c_ift hf rfl hb3 ?_
      refine c_skip ?_
      refine n_then ?_
      refine c_seq ?_
      refine c_block ?_
      refine c_seq ?_
      obtain ⟨hc4, hF⟩ := of_guard hF
      obtain ⟨ad5, c5, he5, hl5⟩ := Ro.el fI64 h1 0 hc4.1 hc4.2
      replace hf : Fr 22 a [(1, va1), (2, .pointer (some ((⟨g1, 0, none⟩ : Addr).add 0))), (5, .int .i64 s2)] := hf.sub ⟨rfl, rfl, rfl, trivial⟩
      refine c_drawL (h := 8) mixed (by kernel_rfl) (by kernel_rfl) (fun ρ w => Va ρ w 1 g1 28 ([.int .i64 a0.p, .int .i64 a0.n, .int .i64 a0.m, .int .i64 a0.k, va0])) ?_ [fun ρ w v => va1 = v, fun ρ w v => .int .i64 s2 = v, fun ρ w v => .pointer (some (ad5.add (s2.toNat * 1))) = v, fun ρ w v => .int .i64 (gl 0 a1 s2) = v, fun ρ w v => .pointer (some ((⟨g1, 0, none⟩ : Addr).add (0 + 4))) = v, fun ρ w v => va0 = v, fun ρ w v => .int .i64 (a0.ps.length : Int) = v, fun ρ w v => .int .i64 (w64 ((a0.ps.length : Int) - 1)) = v] ?_ hw o1 hf ?_ ?_
      · intro ρ w ρ' w' hE hG
        have o1 : Va ρ w 1 g1 28 ([.int .i64 a0.p, .int .i64 a0.n, .int .i64 a0.m, .int .i64 a0.k, va0]) := hG
        exact o1.ext hE
      · exact LastsL.cons (fun _ _ _ _ _ _ h => h) <| LastsL.cons (fun _ _ _ _ _ _ h => h) <| LastsL.cons (fun _ _ _ _ _ _ h => h) <| LastsL.cons (fun _ _ _ _ _ _ h => h) <| LastsL.cons (fun _ _ _ _ _ _ h => h) <| LastsL.cons (fun _ _ _ _ _ _ h => h) <| LastsL.cons (fun _ _ _ _ _ _ h => h) <| LastsL.cons (fun _ _ _ _ _ _ h => h) <| LastsL.nil
      · refine StepsB.cons ?_ <| StepsB.cons ?_ <| StepsB.cons ?_ <| StepsB.cons ?_ <| StepsB.cons ?_ <| StepsB.cons ?_ <| StepsB.cons ?_ <| StepsB.cons ?_ <| StepsB.nil
        · intro ρ w a hw hG hf hd K hK
          have o1 : Va ρ w 1 g1 28 ([.int .i64 a0.p, .int .i64 a0.n, .int .i64 a0.m, .int .i64 a0.k, va0]) := hG
          exact d_val (R := fun ρ w v => va1 = v) hw (wn rfl) (r_move hf rfl) rfl rfl hK
        · intro ρ w a hw hG hf hd K hK
          have o1 : Va ρ w 1 g1 28 ([.int .i64 a0.p, .int .i64 a0.n, .int .i64 a0.m, .int .i64 a0.k, va0]) := hG
          exact d_val (R := fun ρ w v => .int .i64 s2 = v) hw (wn rfl) (r_move hf rfl) rfl rfl hK
        · intro ρ w a hw hG hf hd K hK
          have o1 : Va ρ w 1 g1 28 ([.int .i64 a0.p, .int .i64 a0.n, .int .i64 a0.m, .int .i64 a0.k, va0]) := hG
          obtain ⟨_, ht, rfl⟩ := hd 0 (by kernel_rfl)
          replace hf := hf.more ht
          obtain ⟨_, ht, rfl⟩ := hd 1 (by kernel_rfl)
          replace hf := hf.more ht
          exact d_val (R := fun ρ w v => .pointer (some (ad5.add (s2.toNat * 1))) = v) hw (wn rfl) (r_idx Try.underlying61 sz2 hf rfl ⟨_, he5⟩ rfl hc4.1 hc4.2) rfl rfl hK
        · intro ρ w a hw hG hf hd K hK
          have o1 : Va ρ w 1 g1 28 ([.int .i64 a0.p, .int .i64 a0.n, .int .i64 a0.m, .int .i64 a0.k, va0]) := hG
          obtain ⟨_, ht, rfl⟩ := hd 2 (by kernel_rfl)
          replace hf := hf.more ht
          exact d_val (R := fun ρ w v => .int .i64 (gl 0 a1 s2) = v) hw (wn rfl) (r_load_cell ty2 hf rfl (hl5.below hw.below)) rfl rfl hK
        · intro ρ w a hw hG hf hd K hK
          have o1 : Va ρ w 1 g1 28 ([.int .i64 a0.p, .int .i64 a0.n, .int .i64 a0.m, .int .i64 a0.k, va0]) := hG
          exact d_val (R := fun ρ w v => .pointer (some ((⟨g1, 0, none⟩ : Addr).add (0 + 4))) = v) hw (wn rfl) (r_fa fa28_4 hf rfl) rfl rfl hK
        · intro ρ w a hw hG hf hd K hK
          have o1 : Va ρ w 1 g1 28 ([.int .i64 a0.p, .int .i64 a0.n, .int .i64 a0.m, .int .i64 a0.k, va0]) := hG
          obtain ⟨_, ht, rfl⟩ := hd 4 (by kernel_rfl)
          replace hf := hf.more ht
          exact d_val (R := fun ρ w v => va0 = v) hw (wn rfl) (r_load_cell ty26 hf rfl (o1.cl.at_ 4 _ rfl)) rfl rfl hK
        · intro ρ w a hw hG hf hd K hK
          have o1 : Va ρ w 1 g1 28 ([.int .i64 a0.p, .int .i64 a0.n, .int .i64 a0.m, .int .i64 a0.k, va0]) := hG
          obtain ⟨_, ht, rfl⟩ := hd 5 (by kernel_rfl)
          replace hf := hf.more ht
          exact d_val (R := fun ρ w v => .int .i64 (a0.ps.length : Int) = v) hw (wn rfl) (r_len Try.underlying26 (h0.now hw) hf rfl) rfl rfl hK
        · intro ρ w a hw hG hf hd K hK
          have o1 : Va ρ w 1 g1 28 ([.int .i64 a0.p, .int .i64 a0.n, .int .i64 a0.m, .int .i64 a0.k, va0]) := hG
          obtain ⟨_, ht, rfl⟩ := hd 6 (by kernel_rfl)
          replace hf := hf.more ht
          exact d_val (R := fun ρ w v => .int .i64 (w64 ((a0.ps.length : Int) - 1)) = v) hw (wn rfl) (r_sub hf rfl rfl) rfl rfl hK
      · intro ρ w a hw hG hf hd
        have o1 : Va ρ w 1 g1 28 ([.int .i64 a0.p, .int .i64 a0.n, .int .i64 a0.m, .int .i64 a0.k, va0]) := hG
        replace hf : Fr 22 a [(1, va1), (2, .pointer (some ((⟨g1, 0, none⟩ : Addr).add 0))), (5, .int .i64 s2)] := hf
        obtain ⟨_, ht, rfl⟩ := hd 3 (by decide)
        replace hf := hf.more ht
        obtain ⟨_, ht, rfl⟩ := hd 7 (by decide)
        replace hf := hf.more ht
        obtain ⟨x6, hx7, hF⟩ := of_bind hF
        refine st_fn 2 hw hf rfl rfl (by decide) (r_fn en80 hf rfl) (spec_l01In_ok  hx7) fun a v w ρ hf hw hE hN hΦ => ?_
        obtain rfl := hΦ
        replace o1 := o1.ext hE
        refine st hf rfl rfl (by decide) (r_not hf rfl) fun a hf => ?_
        refine c_nt ?_
        rcases of_ite hF with ⟨hb8, hF⟩ | ⟨hb8, hF⟩
        · refine c_ift hf rfl hb8 ?_
          refine c_seq ?_
          refine c_region ?_
          refine st hf rfl rfl (by decide) (r_assign hf rfl) fun a hf => ?_
          refine c_nt ?_
          refine c_retc ?_
          obtain rfl := Option.some.inj hF
          refine r_block ?_
          refine r_then ?_
          refine Rnd.rets fun ho => ?_
          subst ho
          have hF := hG1
          dsimp only at hF
          obtain rfl := Option.some.inj hF
          refine r_block ?_
          refine r_then ?_
          refine c_ret hf (res_tmp Try.results70 hf rfl) ?_
          exact ⟨_, rfl, hw.below, rfl⟩
        · refine c_iff hf rfl hb8 ?_
          refine c_skip ?_
          refine n_block ?_
          refine n_then ?_
          refine c_region ?_
          refine st hf rfl rfl (by decide) (r_move hf rfl) fun a hf => ?_
          refine st hf rfl rfl (by decide) (r_add hf rfl rfl) fun a hf => ?_
          refine st hf rfl rfl (by decide) (r_assign hf rfl) fun a hf => ?_
          refine c_nil ?_
          obtain rfl := Option.some.inj hF
          exact Rnd.goes ⟨_, hw, hf.sub ⟨rfl, rfl, rfl, trivial⟩, o1⟩
    · refine c_iff hf rfl hb3 ?_
      refine c_exit ?_
      refine x_then ?_
      obtain rfl := Option.some.inj hF
      exact Rnd.stops ⟨_, hw, hf.sub trivial⟩
  · rintro s2 a w hs ⟨ρ, hw, hf⟩
    subst hs
    replace hf : Fr 22 a [] := hf
    have hF := hG1
    dsimp only at hF
    refine x_block ?_
    refine n_then ?_
    refine c_seq ?_
    refine c_region ?_
    refine st hf rfl rfl (by decide) (r_assign hf rfl) fun a hf => ?_
    refine c_nt ?_
    refine c_retc ?_
    obtain rfl := Option.some.inj hF
    refine c_ret hf (res_tmp Try.results70 hf rfl) ?_
    exact ⟨_, rfl, hw.below, rfl⟩
/-! f71 -/
noncomputable def spec_l03With (a0 : Prod) (a1 : Int) (a2 : Form) : Option Prod :=
  if (decide (a1 = 0)) = true then (some ((a2, a0.2.1, a0.2.2))) else (if (decide (a1 = 1)) = true then (some ((a0.1, a2, a0.2.2))) else (some ((a0.1, a0.2.1, a2))))
theorem spec_l03With_ok {w0 : World} {a0 : Prod} {a1 : Int} {a2 : Form}   {r : Prod} (hF : spec_l03With a0 a1 a2 = some r) :
    Calls Try.prog 71 [.agg (cProd.enc a0).toArray, .int .i64 a1, .agg (cForm.enc a2).toArray].toArray w0 fun e w => ∃ v, e = .returned v ∧ Below w0.heap.size w0 w ∧ .agg (cProd.enc r).toArray = v := by
  refine calls_of (k := 19) Try.func71 rfl rfl (Nat.le_of_ble_eq_true rfl) fun a hf => ?_
  replace hf : Fr 19 a [(0, .agg (cProd.enc a0).toArray), (1, .int .i64 a1), (2, .agg (cForm.enc a2).toArray)] := hf
  refine c_start fun w ρ hw => ?_
  unfold spec_l03With at hF
  refine c_seq ?_
  refine c_region ?_
  refine st_ex hf rfl rfl (by decide) (r_box (cs := cProd.enc a0) 1 hw hf rfl rfl) fun a v w hf hΦ => ?_
  obtain ⟨g1, ρ, rfl, hw, hE, o1⟩ := hΦ
  refine st_ex hf rfl rfl (by decide) (r_box (cs := cForm.enc a2) 2 hw hf rfl rfl) fun a v w hf hΦ => ?_
  obtain ⟨g2, ρ, rfl, hw, hE, o2⟩ := hΦ
  replace o1 := o1.ext hE
  refine st_ex hf rfl rfl (by decide) (r_alloc (cs := cProd.enc zProd) 3 ze78 rfl hw) fun a v w hf hΦ => ?_
  obtain ⟨g3, ρ, rfl, hw, hE, o3⟩ := hΦ
  replace o1 := o1.ext hE
  replace o2 := o2.ext hE
  refine c_nt ?_
  refine c_seq ?_
  refine c_seq ?_
  refine c_region ?_
  refine st hf rfl rfl (by decide) (r_move hf rfl) fun a hf => ?_
  refine c_nt ?_
  refine c_block ?_
  refine c_seq ?_
  refine c_region ?_
  refine st hf rfl rfl (by decide) (r_eql hf rfl rfl) fun a hf => ?_
  refine st hf rfl rfl (by decide) (r_assign hf rfl) fun a hf => ?_
  refine c_nt ?_
  rcases of_ite hF with ⟨hb1, hF⟩ | ⟨hb1, hF⟩
  · refine c_ift hf rfl hb1 ?_
    refine c_region ?_
    refine st hf rfl rfl (by decide) (r_load_agg ty39 hf rfl o2.cl (cForm.len _)) fun a hf => ?_
    refine st hf rfl rfl (by decide) (r_fa fa78_0 hf rfl) fun a hf => ?_
    refine st_skip hf rfl rfl (r_store_l (b := a2) hw o1 (by decide) lProd_0 (by simp only [Nat.zero_add] <;> rfl) ty39 hf rfl rfl rfl) fun a w hf hΦ => ?_
    obtain ⟨hw, hA, o1⟩ := hΦ
    replace o2 := o2.adv hA (by decide)
    replace o3 := o3.adv hA (by decide)
    refine c_nil ?_
    refine n_block ?_
    refine n_then ?_
    refine c_seq ?_
    refine c_region ?_
    refine st hf rfl rfl (by decide) (r_load_agg ty78 hf rfl o1.cl (cProd.len _)) fun a hf => ?_
    refine st_skip hf rfl rfl (r_store_w (cs' := cProd.enc (a2, a0.2.1, a0.2.2)) hw o3 (by decide) ty78 (cProd.len _) (cProd.len _) (cProd.one _) hf rfl rfl rfl) fun a w hf hΦ => ?_
    obtain ⟨hw, hA, o3⟩ := hΦ
    replace o1 := o1.adv hA (by decide)
    replace o2 := o2.adv hA (by decide)
    refine c_nt ?_
    refine c_retc ?_
    obtain rfl := Option.some.inj hF
    refine c_ret hf (res_cell Try.results71 ty78 hf rfl o3.cl (cProd.len _)) ?_
    exact ⟨_, rfl, hw.below, rfl⟩
  · refine c_iff hf rfl hb1 ?_
    refine c_seq ?_
    refine c_region ?_
    refine st hf rfl rfl (by decide) (r_eql hf rfl rfl) fun a hf => ?_
    refine st hf rfl rfl (by decide) (r_assign hf rfl) fun a hf => ?_
    refine c_nt ?_
    rcases of_ite hF with ⟨hb2, hF⟩ | ⟨hb2, hF⟩
    · refine c_ift hf rfl hb2 ?_
      refine c_region ?_
      refine st hf rfl rfl (by decide) (r_load_agg ty39 hf rfl o2.cl (cForm.len _)) fun a hf => ?_
      refine st hf rfl rfl (by decide) (r_fa fa78_1 hf rfl) fun a hf => ?_
      refine st_skip hf rfl rfl (r_store_l (b := a2) hw o1 (by decide) lProd_1 (by simp only [Nat.zero_add] <;> rfl) ty39 hf rfl rfl rfl) fun a w hf hΦ => ?_
      obtain ⟨hw, hA, o1⟩ := hΦ
      replace o2 := o2.adv hA (by decide)
      replace o3 := o3.adv hA (by decide)
      refine c_nil ?_
      refine n_block ?_
      refine n_then ?_
      refine c_seq ?_
      refine c_region ?_
      refine st hf rfl rfl (by decide) (r_load_agg ty78 hf rfl o1.cl (cProd.len _)) fun a hf => ?_
      refine st_skip hf rfl rfl (r_store_w (cs' := cProd.enc (a0.1, a2, a0.2.2)) hw o3 (by decide) ty78 (cProd.len _) (cProd.len _) (cProd.one _) hf rfl rfl rfl) fun a w hf hΦ => ?_
      obtain ⟨hw, hA, o3⟩ := hΦ
      replace o1 := o1.adv hA (by decide)
      replace o2 := o2.adv hA (by decide)
      refine c_nt ?_
      refine c_retc ?_
      obtain rfl := Option.some.inj hF
      refine c_ret hf (res_cell Try.results71 ty78 hf rfl o3.cl (cProd.len _)) ?_
      exact ⟨_, rfl, hw.below, rfl⟩
    · refine c_iff hf rfl hb2 ?_
      refine c_region ?_
      refine st hf rfl rfl (by decide) (r_load_agg ty39 hf rfl o2.cl (cForm.len _)) fun a hf => ?_
      refine st hf rfl rfl (by decide) (r_fa fa78_2 hf rfl) fun a hf => ?_
      refine st_skip hf rfl rfl (r_store_l (b := a2) hw o1 (by decide) lProd_2 (by simp only [Nat.zero_add] <;> rfl) ty39 hf rfl rfl rfl) fun a w hf hΦ => ?_
      obtain ⟨hw, hA, o1⟩ := hΦ
      replace o2 := o2.adv hA (by decide)
      replace o3 := o3.adv hA (by decide)
      refine c_nil ?_
      refine n_block ?_
      refine n_then ?_
      refine c_seq ?_
      refine c_region ?_
      refine st hf rfl rfl (by decide) (r_load_agg ty78 hf rfl o1.cl (cProd.len _)) fun a hf => ?_
      refine st_skip hf rfl rfl (r_store_w (cs' := cProd.enc (a0.1, a0.2.1, a2)) hw o3 (by decide) ty78 (cProd.len _) (cProd.len _) (cProd.one _) hf rfl rfl rfl) fun a w hf hΦ => ?_
      obtain ⟨hw, hA, o3⟩ := hΦ
      replace o1 := o1.adv hA (by decide)
      replace o2 := o2.adv hA (by decide)
      refine c_nt ?_
      refine c_retc ?_
      obtain rfl := Option.some.inj hF
      refine c_ret hf (res_cell Try.results71 ty78 hf rfl o3.cl (cProd.len _)) ?_
      exact ⟨_, rfl, hw.below, rfl⟩
/-! f22 -/
noncomputable def spec_PlusMove (a0 : Sch) (a1 : Int) (a2 : Int) : Option (Sch × Int) :=
  (spec_l01Is a0).bind fun x1 => if (!x1) = true then (some (((⟨0, 0, 0, 0, ([] : List Prod)⟩ : Sch), 1))) else ((spec_l03Numbers a0 ([a1, a2])).bind fun x4 => if (!x4) = true then (some (((⟨0, 0, 0, 0, ([] : List Prod)⟩ : Sch), 2))) else (if (decide (a1 = a2)) = true then (some (((⟨0, 0, 0, 0, ([] : List Prod)⟩ : Sch), 5))) else (if (decide ((a0.ps.length : Int) = 30)) = true then (some (((⟨0, 0, 0, 0, ([] : List Prod)⟩ : Sch), 3))) else (if (([] : List Prod).length + a0.ps.length) * 27 ≤ 140737488355328 then (if 0 ≤ a1 ∧ a1 < ((([] : List Prod) ++ a0.ps).length : Int) then (if 0 ≤ a2 ∧ a2 < ((([] : List Prod) ++ a0.ps).length : Int) then ((spec_l01Add a0.p ((gl zProd (([] : List Prod) ++ a0.ps) a1).1) ((gl zProd (([] : List Prod) ++ a0.ps) a2).1) (-1)).bind fun x15 => (spec_l03With (gl zProd (([] : List Prod) ++ a0.ps) a1) 0 x15).bind fun x17 => (spec_l01Add a0.p ((gl zProd (([] : List Prod) ++ a0.ps) a1).2.2) ((gl zProd (([] : List Prod) ++ a0.ps) a2).2.2) 1).bind fun x20 => if 0 ≤ a2 ∧ a2 < (((([] : List Prod) ++ a0.ps).set a1.toNat x17).length : Int) then ((spec_l01Add a0.p ((gl zProd (([] : List Prod) ++ a0.ps) a2).2.1) ((gl zProd (([] : List Prod) ++ a0.ps) a1).2.1) (-1)).bind fun x24 => (spec_l03With (gl zProd (([] : List Prod) ++ a0.ps) a2) 1 x24).bind fun x26 => if ((((([] : List Prod) ++ a0.ps).set a1.toNat x17).set a2.toNat ((gl zProd (([] : List Prod) ++ a0.ps) a2).1, (gl zProd (([] : List Prod) ++ a0.ps) a1).2.1, x20)).length + ([x26]).length) * 27 ≤ 140737488355328 then ((spec_l03Told a0 ((((([] : List Prod) ++ a0.ps).set a1.toNat x17).set a2.toNat ((gl zProd (([] : List Prod) ++ a0.ps) a2).1, (gl zProd (([] : List Prod) ++ a0.ps) a1).2.1, x20)) ++ [x26])).bind fun x30 => some ((x30, 0))) else none) else none) else none) else none) else none))))
theorem spec_PlusMove_ok {w0 : World} {a0 : Sch} {a1 : Int} {a2 : Int} {va0 : Value} (h0 : Ro (kf cProd) w0 va0 a0.ps) {r : Sch × Int} (hF : spec_PlusMove a0 a1 a2 = some r) :
    Calls Try.prog 22 [.agg ([.int .i64 a0.p, .int .i64 a0.n, .int .i64 a0.m, .int .i64 a0.k, va0]).toArray, .int .i64 a1, .int .i64 a2].toArray w0 fun e w => ∃ v, e = .returned v ∧ Below w0.heap.size w0 w ∧ ∃ u0, .tuple #[.agg [.int .i64 r.1.p, .int .i64 r.1.n, .int .i64 r.1.m, .int .i64 r.1.k, u0].toArray, .int .i64 r.2] = v ∧ Fresh (kf cProd) 78 w0 w u0 r.1.ps := by
  refine calls_of (k := 89) Try.func22 rfl rfl (Nat.le_of_ble_eq_true rfl) fun a hf => ?_
  replace hf : Fr 89 a [(0, .agg ([.int .i64 a0.p, .int .i64 a0.n, .int .i64 a0.m, .int .i64 a0.k, va0]).toArray), (1, .int .i64 a1), (2, .int .i64 a2)] := hf
  refine c_start fun w ρ hw => ?_
  unfold spec_PlusMove at hF
  refine c_seq ?_
  refine c_region ?_
  refine st_ex hf rfl rfl (by decide) (r_box (cs := [.int .i64 a0.p, .int .i64 a0.n, .int .i64 a0.m, .int .i64 a0.k, va0]) 1 hw hf rfl rfl) fun a v w hf hΦ => ?_
  obtain ⟨g1, ρ, rfl, hw, hE, o1⟩ := hΦ
  have o3 : Ow (kf cProd) 78 ρ w w0.heap.size 3 (.slice none 0 0) [] := Ow.nil _ _ _ _ _ _
  refine st_ex hf rfl rfl (by decide) (r_alloc (cs := [.int .i64 0, .int .i64 0, .int .i64 0, .int .i64 0, (.slice none 0 0)]) 2 ze28 rfl hw) fun a v w hf hΦ => ?_
  obtain ⟨g2, ρ, rfl, hw, hE, o2⟩ := hΦ
  replace o1 := o1.ext hE
  replace o3 := o3.ext hE
  refine st hf rfl rfl (by decide) (r_assign hf rfl) fun a hf => ?_
  refine c_nt ?_
  refine c_seq ?_
  refine c_block ?_
  refine c_seq ?_
  refine c_region ?_
  refine st hf rfl rfl (by decide) (r_load_agg ty28 hf rfl o1.cl rfl) fun a hf => ?_
  obtain ⟨x1, hx2, hF⟩ := of_bind hF
  refine st_fn 4 hw hf rfl rfl (by decide) (r_fn en69 hf rfl) (spec_l01Is_ok (a0 := a0) (h0.now hw) hx2) fun a v w ρ hf hw hE hN hΦ => ?_
  obtain rfl := hΦ
  replace o1 := o1.ext hE
  replace o3 := o3.ext hE
  replace o2 := o2.ext hE
  refine st hf rfl rfl (by decide) (r_not hf rfl) fun a hf => ?_
  refine st hf rfl rfl (by decide) (r_assign hf rfl) fun a hf => ?_
  refine c_nt ?_
  rcases of_ite hF with ⟨hb3, hF⟩ | ⟨hb3, hF⟩
  · refine c_ift hf rfl hb3 ?_
    refine c_seq ?_
    refine c_region ?_
    have o5 : Ow (kf cProd) 78 ρ w w0.heap.size 5 (.slice none 0 0) [] := Ow.nil _ _ _ _ _ _
    refine st hf rfl rfl (by decide) (r_build_struct (pl := [(0, 1), (1, 1), (2, 1), (3, 1), (4, 1)]) (vs := []) (res := ([.int .i64 0, .int .i64 0, .int .i64 0, .int .i64 0, (.slice none 0 0)]).toArray) Try.underlying28 (by kernel_rfl) ze28 hf rfl rfl rfl) fun a hf => ?_
    refine st_skip hf rfl rfl (r_store_w (cs' := [.int .i64 0, .int .i64 0, .int .i64 0, .int .i64 0, (.slice none 0 0)]) hw o2 (by decide) ty28 rfl rfl (one_sch o5.ro.one) hf rfl rfl rfl) fun a w hf hΦ => ?_
    obtain ⟨hw, hA, o2⟩ := hΦ
    replace o1 := o1.adv hA (by decide)
    replace o3 := o3.adv hA (by decide)
    replace o5 := o5.adv hA (by decide)
    refine st hf rfl rfl (by decide) (r_assign hf rfl) fun a hf => ?_
    refine c_nt ?_
    refine c_retc ?_
    obtain rfl := Option.some.inj hF
    refine r_block ?_
    refine r_then ?_
    refine c_ret hf (res_ct Try.results22 ty28 hf rfl o2.cl rfl rfl) ?_
    exact ⟨_, rfl, hw.below, ⟨_, rfl, o5.out⟩⟩
  · refine c_iff hf rfl hb3 ?_
    refine c_seq ?_
    refine c_region ?_
    refine st hf rfl rfl (by decide) (r_load_agg ty28 hf rfl o1.cl rfl) fun a hf => ?_
    refine st hf rfl rfl (by decide) (r_move hf rfl) fun a hf => ?_
    refine st hf rfl rfl (by decide) (r_move hf rfl) fun a hf => ?_
    refine st_ex hf rfl rfl (by decide) (r_lit (d := fI64) (xs := ([a1, a2] : List Int)) (vs := [.int .i64 a1, .int .i64 a2]) 6 Try.underlying61 el2 (Nat.le_of_ble_eq_true rfl) (Nat.le_of_ble_eq_true rfl) hw hf rfl rfl rfl) fun a v6 w hf hΦ => ?_
    obtain ⟨ρ, hw, hE, o6⟩ := hΦ
    replace o1 := o1.ext hE
    replace o3 := o3.ext hE
    replace o2 := o2.ext hE
    obtain ⟨x4, hx5, hF⟩ := of_bind hF
    refine st_fn 7 hw hf rfl rfl (by decide) (r_fn en70 hf rfl) (spec_l03Numbers_ok (a0 := a0) (h0.now hw) o6.ro hx5) fun a v w ρ hf hw hE hN hΦ => ?_
    obtain rfl := hΦ
    replace o1 := o1.ext hE
    replace o3 := o3.ext hE
    replace o2 := o2.ext hE
    replace o6 := o6.ext hE
    refine st hf rfl rfl (by decide) (r_not hf rfl) fun a hf => ?_
    refine st hf rfl rfl (by decide) (r_assign hf rfl) fun a hf => ?_
    refine c_nt ?_
    rcases of_ite hF with ⟨hb6, hF⟩ | ⟨hb6, hF⟩
    · refine c_ift hf rfl hb6 ?_
      refine c_seq ?_
      refine c_region ?_
      have o8 : Ow (kf cProd) 78 ρ w w0.heap.size 8 (.slice none 0 0) [] := Ow.nil _ _ _ _ _ _
      refine st hf rfl rfl (by decide) (r_build_struct (pl := [(0, 1), (1, 1), (2, 1), (3, 1), (4, 1)]) (vs := []) (res := ([.int .i64 0, .int .i64 0, .int .i64 0, .int .i64 0, (.slice none 0 0)]).toArray) Try.underlying28 (by kernel_rfl) ze28 hf rfl rfl rfl) fun a hf => ?_
      refine st_skip hf rfl rfl (r_store_w (cs' := [.int .i64 0, .int .i64 0, .int .i64 0, .int .i64 0, (.slice none 0 0)]) hw o2 (by decide) ty28 rfl rfl (one_sch o8.ro.one) hf rfl rfl rfl) fun a w hf hΦ => ?_
      obtain ⟨hw, hA, o2⟩ := hΦ
      replace o1 := o1.adv hA (by decide)
      replace o3 := o3.adv hA (by decide)
      replace o6 := o6.adv hA (by decide)
      replace o8 := o8.adv hA (by decide)
      refine st hf rfl rfl (by decide) (r_assign hf rfl) fun a hf => ?_
      refine c_nt ?_
      refine c_retc ?_
      obtain rfl := Option.some.inj hF
      refine r_block ?_
      refine r_then ?_
      refine c_ret hf (res_ct Try.results22 ty28 hf rfl o2.cl rfl rfl) ?_
      exact ⟨_, rfl, hw.below, ⟨_, rfl, o8.out⟩⟩
    · refine c_iff hf rfl hb6 ?_
      refine c_seq ?_
      refine c_region ?_
      refine st hf rfl rfl (by decide) (r_move hf rfl) fun a hf => ?_
      refine st hf rfl rfl (by decide) (r_move hf rfl) fun a hf => ?_
      refine st hf rfl rfl (by decide) (r_eql hf rfl rfl) fun a hf => ?_
      refine st hf rfl rfl (by decide) (r_assign hf rfl) fun a hf => ?_
      refine c_nt ?_
      rcases of_ite hF with ⟨hb7, hF⟩ | ⟨hb7, hF⟩
      · refine c_ift hf rfl hb7 ?_
        refine c_seq ?_
        refine c_region ?_
        have o9 : Ow (kf cProd) 78 ρ w w0.heap.size 9 (.slice none 0 0) [] := Ow.nil _ _ _ _ _ _
        refine st hf rfl rfl (by decide) (r_build_struct (pl := [(0, 1), (1, 1), (2, 1), (3, 1), (4, 1)]) (vs := []) (res := ([.int .i64 0, .int .i64 0, .int .i64 0, .int .i64 0, (.slice none 0 0)]).toArray) Try.underlying28 (by kernel_rfl) ze28 hf rfl rfl rfl) fun a hf => ?_
        refine st_skip hf rfl rfl (r_store_w (cs' := [.int .i64 0, .int .i64 0, .int .i64 0, .int .i64 0, (.slice none 0 0)]) hw o2 (by decide) ty28 rfl rfl (one_sch o9.ro.one) hf rfl rfl rfl) fun a w hf hΦ => ?_
        obtain ⟨hw, hA, o2⟩ := hΦ
        replace o1 := o1.adv hA (by decide)
        replace o3 := o3.adv hA (by decide)
        replace o6 := o6.adv hA (by decide)
        replace o9 := o9.adv hA (by decide)
        refine st hf rfl rfl (by decide) (r_assign hf rfl) fun a hf => ?_
        refine c_nt ?_
        refine c_retc ?_
        obtain rfl := Option.some.inj hF
        refine r_block ?_
        refine r_then ?_
        refine c_ret hf (res_ct Try.results22 ty28 hf rfl o2.cl rfl rfl) ?_
        exact ⟨_, rfl, hw.below, ⟨_, rfl, o9.out⟩⟩
      · refine c_iff hf rfl hb7 ?_
        refine c_seq ?_
        refine c_region ?_
        refine st hf rfl rfl (by decide) (r_fa fa28_4 hf rfl) fun a hf => ?_
        refine st hf rfl rfl (by decide) (r_load_cell ty26 hf rfl (o1.cl.at_ 4 _ rfl)) fun a hf => ?_
        refine st hf rfl rfl (by decide) (r_len Try.underlying26 (h0.now hw) hf rfl) fun a hf => ?_
        refine st hf rfl rfl (by decide) (r_eql hf rfl rfl) fun a hf => ?_
        refine st hf rfl rfl (by decide) (r_assign hf rfl) fun a hf => ?_
        refine c_nt ?_
        rcases of_ite hF with ⟨hb8, hF⟩ | ⟨hb8, hF⟩
        · refine c_ift hf rfl hb8 ?_
          refine c_seq ?_
          refine c_region ?_
          have o10 : Ow (kf cProd) 78 ρ w w0.heap.size 10 (.slice none 0 0) [] := Ow.nil _ _ _ _ _ _
          refine st hf rfl rfl (by decide) (r_build_struct (pl := [(0, 1), (1, 1), (2, 1), (3, 1), (4, 1)]) (vs := []) (res := ([.int .i64 0, .int .i64 0, .int .i64 0, .int .i64 0, (.slice none 0 0)]).toArray) Try.underlying28 (by kernel_rfl) ze28 hf rfl rfl rfl) fun a hf => ?_
          refine st_skip hf rfl rfl (r_store_w (cs' := [.int .i64 0, .int .i64 0, .int .i64 0, .int .i64 0, (.slice none 0 0)]) hw o2 (by decide) ty28 rfl rfl (one_sch o10.ro.one) hf rfl rfl rfl) fun a w hf hΦ => ?_
          obtain ⟨hw, hA, o2⟩ := hΦ
          replace o1 := o1.adv hA (by decide)
          replace o3 := o3.adv hA (by decide)
          replace o6 := o6.adv hA (by decide)
          replace o10 := o10.adv hA (by decide)
          refine st hf rfl rfl (by decide) (r_assign hf rfl) fun a hf => ?_
          refine c_nt ?_
          refine c_retc ?_
          obtain rfl := Option.some.inj hF
          refine r_block ?_
          refine r_then ?_
          refine c_ret hf (res_ct Try.results22 ty28 hf rfl o2.cl rfl rfl) ?_
          exact ⟨_, rfl, hw.below, ⟨_, rfl, o10.out⟩⟩
        · refine c_iff hf rfl hb8 ?_
          refine c_skip ?_
          refine n_block ?_
          refine n_then ?_
          refine c_seq ?_
          refine c_region ?_
          refine st_ex hf rfl rfl (by decide) (r_lit (d := cProd) (xs := ([] : List Prod)) (vs := []) 11 Try.underlying26 el78 (Nat.le_of_ble_eq_true rfl) (Nat.le_of_ble_eq_true rfl) hw hf rfl rfl rfl) fun a v11 w hf hΦ => ?_
          obtain ⟨ρ, hw, hE, o11⟩ := hΦ
          replace o1 := o1.ext hE
          replace o3 := o3.ext hE
          replace o2 := o2.ext hE
          replace o6 := o6.ext hE
          refine st hf rfl rfl (by decide) (r_fa fa28_4 hf rfl) fun a hf => ?_
          refine st hf rfl rfl (by decide) (r_load_cell ty26 hf rfl (o1.cl.at_ 4 _ rfl)) fun a hf => ?_
          obtain ⟨hc9, hF⟩ := of_guard hF
          refine st_ex hf rfl rfl (by decide) (r_append Try.underlying26 el78 hw (by decide) o11 (h0.now hw) hc9 hf rfl rfl) fun a va10 w hf hΦ => ?_
          obtain ⟨ρ, hw, hA, o11⟩ := hΦ
          replace o1 := o1.adv hA (by decide)
          replace o3 := o3.adv hA (by decide)
          replace o2 := o2.adv hA (by decide)
          replace o6 := o6.adv hA (by decide)
          refine st hf rfl rfl (by decide) (r_assign hf rfl) fun a hf => ?_
          refine c_nt ?_
          refine c_seq ?_
          obtain ⟨hc11, hF⟩ := of_guard hF
          obtain ⟨hc13, hF⟩ := of_guard hF
          replace hf : Fr 89 a [(1, .int .i64 a1), (2, .int .i64 a2), (3, .pointer (some ((⟨g1, 0, none⟩ : Addr).add 0))), (6, .pointer (some ((⟨g2, 0, none⟩ : Addr).add 0))), (8, va10)] := hf.sub ⟨rfl, rfl, rfl, rfl, rfl, trivial⟩
          refine c_stage 11 [10] mixed (by kernel_rfl) (by kernel_rfl) (fun c ρ w => Va ρ w 1 g1 28 ([.int .i64 a0.p, .int .i64 a0.n, .int .i64 a0.m, .int .i64 a0.k, va0]) ∧ Va ρ w 2 g2 28 ([.int .i64 0, .int .i64 0, .int .i64 0, .int .i64 0, (.slice none 0 0)]) ∧ Ow (kf cProd) 78 ρ w w0.heap.size 3 (.slice none 0 0) ([] : List Prod) ∧ Ow (kf cProd) 78 ρ w w0.heap.size 11 va10 (([] : List Prod) ++ a0.ps)) ?_ [fun c ρ w v => va10 = v, fun c ρ w v => .int .i64 a1 = v, fun c ρ w v => ∃ ad12, .pointer (some (ad12.add (a1.toNat * 27))) = v ∧ Ce ρ w 11 va10 ((([] : List Prod) ++ a0.ps).length) ad12 (a1.toNat * 27) (cProd.enc (gl zProd (([] : List Prod) ++ a0.ps) a1)), fun c ρ w v => .agg (cProd.enc (gl zProd (([] : List Prod) ++ a0.ps) a1)).toArray = v, fun c ρ w v => va10 = v, fun c ρ w v => .int .i64 a2 = v, fun c ρ w v => ∃ ad14, .pointer (some (ad14.add (a2.toNat * 27))) = v ∧ Ce ρ w 11 va10 ((([] : List Prod) ++ a0.ps).length) ad14 (a2.toNat * 27) (cProd.enc (gl zProd (([] : List Prod) ++ a0.ps) a2)), fun c ρ w v => .agg (cProd.enc (gl zProd (([] : List Prod) ++ a0.ps) a2)).toArray = v, fun c ρ w v => ∃ g14, .pointer (some ((⟨g14, 0, none⟩ : Addr).add 0)) = v ∧ (c ≤ 0 → Va ρ w 14 g14 78 (cProd.enc zProd)) ∧ (0 < c → Va ρ w 14 g14 78 (cProd.enc (gl zProd (([] : List Prod) ++ a0.ps) a1))), fun c ρ w v => ∃ g15, .pointer (some ((⟨g15, 0, none⟩ : Addr).add 0)) = v ∧ Va ρ w 15 g15 78 (cProd.enc zProd), fun _ _ _ _ => True] ?_ hw ⟨o1, o2, o3, o11⟩ hf ?_ ?_
          · intro c ρ w ρ' w' hE hG
            obtain ⟨o1, o2, o3, o11⟩ := hG
            exact ⟨o1.ext hE, o2.ext hE, o3.ext hE, o11.ext hE⟩
          · exact LastsS.cons (fun _ _ _ _ _ _ _ h => h) <| LastsS.cons (fun _ _ _ _ _ _ _ h => h) <| LastsS.cons (fun c _ _ _ _ _ hE h => by obtain ⟨ad12, h, hl12⟩ := h; exact ⟨_, h, hl12.ext hE⟩) <| LastsS.cons (fun _ _ _ _ _ _ _ h => h) <| LastsS.cons (fun _ _ _ _ _ _ _ h => h) <| LastsS.cons (fun _ _ _ _ _ _ _ h => h) <| LastsS.cons (fun c _ _ _ _ _ hE h => by obtain ⟨ad14, h, hl14⟩ := h; exact ⟨_, h, hl14.ext hE⟩) <| LastsS.cons (fun _ _ _ _ _ _ _ h => h) <| LastsS.cons (fun c _ _ _ _ _ hE h => by obtain ⟨g14, h, hx, hy⟩ := h; exact ⟨_, h, fun h => (hx h).ext hE, (fun h => by obtain o14 := hy h; exact o14.ext hE)⟩) <| LastsS.cons (fun c _ _ _ _ _ hE h => by obtain ⟨g15, h, o15⟩ := h; exact ⟨_, h, o15.ext hE⟩) <| LastsS.cons (fun _ _ _ _ _ _ _ h => h) <| LastsS.nil
          · refine StepsS.float rfl ?_ <| StepsS.float rfl ?_ <| StepsS.float rfl ?_ <| StepsS.float rfl ?_ <| StepsS.float rfl ?_ <| StepsS.float rfl ?_ <| StepsS.float rfl ?_ <| StepsS.float rfl ?_ <| StepsS.float rfl ?_ <| StepsS.float rfl ?_ <| StepsS.main 0 rfl rfl ?_ <| StepsS.nil
            · intro c ρ w a hs hw hG hf hd K hK
              obtain ⟨o1, o2, o3, o11⟩ := hG
              exact d_val (R := fun ρ w v => va10 = v) hw (wn rfl) (r_move hf rfl) rfl rfl hK
            · intro c ρ w a hs hw hG hf hd K hK
              obtain ⟨o1, o2, o3, o11⟩ := hG
              exact d_val (R := fun ρ w v => .int .i64 a1 = v) hw (wn rfl) (r_move hf rfl) rfl rfl hK
            · intro c ρ w a hs hw hG hf hd K hK
              obtain ⟨o1, o2, o3, o11⟩ := hG
              obtain ⟨_, ht0, rfl⟩ := hd 0 (by kernel_rfl) (by kernel_rfl)
              replace hf := hf.more ht0
              obtain ⟨_, ht1, rfl⟩ := hd 1 (by kernel_rfl) (by kernel_rfl)
              replace hf := hf.more ht1
              obtain ⟨ad12, hl12⟩ := Ow.ce (d := cProd) o11 zProd hc11.1 hc11.2
              exact d_val (R := fun ρ w v => ∃ ad12, .pointer (some (ad12.add (a1.toNat * 27))) = v ∧ Ce ρ w 11 va10 ((([] : List Prod) ++ a0.ps).length) ad12 (a1.toNat * 27) (cProd.enc (gl zProd (([] : List Prod) ++ a0.ps) a1))) hw (wn rfl) (r_idx Try.underlying26 sz78 hf rfl hl12.at_ rfl hc11.1 hc11.2) rfl ⟨_, rfl, hl12⟩ hK
            · intro c ρ w a hs hw hG hf hd K hK
              obtain ⟨o1, o2, o3, o11⟩ := hG
              obtain ⟨_, ht2, ⟨ad12, rfl, hl12⟩⟩ := hd 2 (by kernel_rfl) (by kernel_rfl)
              replace hf := hf.more ht2
              exact d_val (R := fun ρ w v => .agg (cProd.enc (gl zProd (([] : List Prod) ++ a0.ps) a1)).toArray = v) hw (wn rfl) (r_load_agg ty78 hf rfl hl12.co.cl (cProd.len _)) rfl rfl hK
            · intro c ρ w a hs hw hG hf hd K hK
              obtain ⟨o1, o2, o3, o11⟩ := hG
              exact d_val (R := fun ρ w v => va10 = v) hw (wn rfl) (r_move hf rfl) rfl rfl hK
            · intro c ρ w a hs hw hG hf hd K hK
              obtain ⟨o1, o2, o3, o11⟩ := hG
              exact d_val (R := fun ρ w v => .int .i64 a2 = v) hw (wn rfl) (r_move hf rfl) rfl rfl hK
            · intro c ρ w a hs hw hG hf hd K hK
              obtain ⟨o1, o2, o3, o11⟩ := hG
              obtain ⟨_, ht4, rfl⟩ := hd 4 (by kernel_rfl) (by kernel_rfl)
              replace hf := hf.more ht4
              obtain ⟨_, ht5, rfl⟩ := hd 5 (by kernel_rfl) (by kernel_rfl)
              replace hf := hf.more ht5
              obtain ⟨ad14, hl14⟩ := Ow.ce (d := cProd) o11 zProd hc13.1 hc13.2
              exact d_val (R := fun ρ w v => ∃ ad14, .pointer (some (ad14.add (a2.toNat * 27))) = v ∧ Ce ρ w 11 va10 ((([] : List Prod) ++ a0.ps).length) ad14 (a2.toNat * 27) (cProd.enc (gl zProd (([] : List Prod) ++ a0.ps) a2))) hw (wn rfl) (r_idx Try.underlying26 sz78 hf rfl hl14.at_ rfl hc13.1 hc13.2) rfl ⟨_, rfl, hl14⟩ hK
            · intro c ρ w a hs hw hG hf hd K hK
              obtain ⟨o1, o2, o3, o11⟩ := hG
              obtain ⟨_, ht6, ⟨ad14, rfl, hl14⟩⟩ := hd 6 (by kernel_rfl) (by kernel_rfl)
              replace hf := hf.more ht6
              exact d_val (R := fun ρ w v => .agg (cProd.enc (gl zProd (([] : List Prod) ++ a0.ps) a2)).toArray = v) hw (wn rfl) (r_load_agg ty78 hf rfl hl14.co.cl (cProd.len _)) rfl rfl hK
            · intro c ρ w a hs hw hG hf hd K hK
              obtain ⟨o1, o2, o3, o11⟩ := hG
              refine d_ex (R := fun ρ w v => ∃ g14, .pointer (some ((⟨g14, 0, none⟩ : Addr).add 0)) = v ∧ (c ≤ 0 → Va ρ w 14 g14 78 (cProd.enc zProd)) ∧ (0 < c → Va ρ w 14 g14 78 (cProd.enc (gl zProd (([] : List Prod) ++ a0.ps) a1)))) hw (wn rfl) (r_alloc (cs := cProd.enc zProd) 14 ze78 rfl hw) rfl (fun v w' hΦ => ?_) hK
              obtain ⟨g14, ρ, rfl, hw, hE, o14⟩ := hΦ
              exact ⟨_, hw, hE, _, rfl, fun _ => o14, fun hc => absurd (hs 0 (by decide) (by kernel_rfl)) (Nat.not_le_of_lt hc)⟩
            · intro c ρ w a hs hw hG hf hd K hK
              obtain ⟨o1, o2, o3, o11⟩ := hG
              refine d_ex (R := fun ρ w v => ∃ g15, .pointer (some ((⟨g15, 0, none⟩ : Addr).add 0)) = v ∧ Va ρ w 15 g15 78 (cProd.enc zProd)) hw (wn rfl) (r_alloc (cs := cProd.enc zProd) 15 ze78 rfl hw) rfl (fun v w' hΦ => ?_) hK
              obtain ⟨g15, ρ, rfl, hw, hE, o15⟩ := hΦ
              exact ⟨_, hw, hE, _, rfl, o15⟩
            · intro ρ w a S hw hG hf hS hdep hSi K hK
              obtain ⟨o1, o2, o3, o11⟩ := hG
              have hfL := hf
              obtain ⟨_, ht3, rfl⟩ := hS 3 (by decide) (hdep 3 (by kernel_rfl)) (by kernel_rfl)
              replace hf := hf.more ht3
              obtain ⟨_, ht8, g14, rfl, hx8, hy8⟩ := hS 8 (by decide) (hdep 8 (by kernel_rfl)) (by kernel_rfl)
              have o14 := hx8 (by decide)
              replace hf := hf.more ht8
              refine m_skip (Γ := fun c ρ w => Va ρ w 1 g1 28 ([.int .i64 a0.p, .int .i64 a0.n, .int .i64 a0.m, .int .i64 a0.k, va0]) ∧ Va ρ w 2 g2 28 ([.int .i64 0, .int .i64 0, .int .i64 0, .int .i64 0, (.slice none 0 0)]) ∧ Ow (kf cProd) 78 ρ w w0.heap.size 3 (.slice none 0 0) ([] : List Prod) ∧ Ow (kf cProd) 78 ρ w w0.heap.size 11 va10 (([] : List Prod) ++ a0.ps)) (Rl := [fun c ρ w v => va10 = v, fun c ρ w v => .int .i64 a1 = v, fun c ρ w v => ∃ ad12, .pointer (some (ad12.add (a1.toNat * 27))) = v ∧ Ce ρ w 11 va10 ((([] : List Prod) ++ a0.ps).length) ad12 (a1.toNat * 27) (cProd.enc (gl zProd (([] : List Prod) ++ a0.ps) a1)), fun c ρ w v => .agg (cProd.enc (gl zProd (([] : List Prod) ++ a0.ps) a1)).toArray = v, fun c ρ w v => va10 = v, fun c ρ w v => .int .i64 a2 = v, fun c ρ w v => ∃ ad14, .pointer (some (ad14.add (a2.toNat * 27))) = v ∧ Ce ρ w 11 va10 ((([] : List Prod) ++ a0.ps).length) ad14 (a2.toNat * 27) (cProd.enc (gl zProd (([] : List Prod) ++ a0.ps) a2)), fun c ρ w v => .agg (cProd.enc (gl zProd (([] : List Prod) ++ a0.ps) a2)).toArray = v, fun c ρ w v => ∃ g14, .pointer (some ((⟨g14, 0, none⟩ : Addr).add 0)) = v ∧ (c ≤ 0 → Va ρ w 14 g14 78 (cProd.enc zProd)) ∧ (0 < c → Va ρ w 14 g14 78 (cProd.enc (gl zProd (([] : List Prod) ++ a0.ps) a1))), fun c ρ w v => ∃ g15, .pointer (some ((⟨g15, 0, none⟩ : Addr).add 0)) = v ∧ Va ρ w 15 g15 78 (cProd.enc zProd), fun _ _ _ _ => True]) hfL hS (by kernel_rfl) rfl (wn rfl) (r_store_w (cs' := cProd.enc (gl zProd (([] : List Prod) ++ a0.ps) a1)) hw o14 (by decide) ty78 (cProd.len _) (cProd.len _) (cProd.one _) hf rfl rfl rfl) (fun w' hΦ => ?_) hK
              obtain ⟨hw, hA, o14⟩ := hΦ
              replace o1 := o1.adv hA (by decide)
              replace o2 := o2.adv hA (by decide)
              replace o3 := o3.adv hA (by decide)
              replace o11 := o11.adv hA (by decide)
              refine ⟨_, hw, ⟨o1, o2, o3, o11⟩, ?_⟩
              · exact PassL.cons (fun h => h) <| PassL.cons (fun h => h) <| PassL.cons (fun h => by obtain ⟨_, ht, ad12, h, hl12⟩ := h; exact ⟨_, ht, _, h, hl12.adv hA (by decide)⟩) <| PassL.cons (fun h => h) <| PassL.cons (fun h => h) <| PassL.cons (fun h => h) <| PassL.cons (fun h => by obtain ⟨_, ht, ad14, h, hl14⟩ := h; exact ⟨_, ht, _, h, hl14.adv hA (by decide)⟩) <| PassL.cons (fun h => h) <| PassL.cons (fun _ => ⟨_, ht8, _, rfl, fun h => absurd h (by decide), fun _ => o14⟩) <| PassL.cons (fun h => by obtain ⟨_, ht, g15, h, o15⟩ := h; exact ⟨_, ht, _, h, o15.adv hA (by decide)⟩) <| PassL.here <| PassL.nil
          · intro ρ w a hw hG hf hd
            obtain ⟨o1, o2, o3, o11⟩ := hG
            replace hf : Fr 89 a [(1, .int .i64 a1), (2, .int .i64 a2), (3, .pointer (some ((⟨g1, 0, none⟩ : Addr).add 0))), (6, .pointer (some ((⟨g2, 0, none⟩ : Addr).add 0))), (8, va10)] := hf
            obtain ⟨_, ht, rfl⟩ := hd 7 (by decide) (by kernel_rfl)
            replace hf := hf.more ht
            obtain ⟨_, ht, g14, rfl, hx, hy⟩ := hd 8 (by decide) (by kernel_rfl)
            obtain o14 := hy (by decide)
            replace hf := hf.more ht
            obtain ⟨_, ht, ⟨g15, rfl, o15⟩⟩ := hd 9 (by decide) (by kernel_rfl)
            replace hf := hf.more ht
            refine st_skip hf rfl rfl (r_store_w (cs' := cProd.enc (gl zProd (([] : List Prod) ++ a0.ps) a2)) hw o15 (by decide) ty78 (cProd.len _) (cProd.len _) (cProd.one _) hf rfl rfl rfl) fun a w hf hΦ => ?_
            obtain ⟨hw, hA, o15⟩ := hΦ
            replace o1 := o1.adv hA (by decide)
            replace o2 := o2.adv hA (by decide)
            replace o3 := o3.adv hA (by decide)
            replace o11 := o11.adv hA (by decide)
            replace o14 := o14.adv hA (by decide)
            refine c_nt ?_
            refine c_seq ?_
            obtain ⟨x15, hx16, hF⟩ := of_bind hF
            obtain ⟨x17, hx18, hF⟩ := of_bind hF
            replace hf : Fr 89 a [(1, .int .i64 a1), (2, .int .i64 a2), (3, .pointer (some ((⟨g1, 0, none⟩ : Addr).add 0))), (6, .pointer (some ((⟨g2, 0, none⟩ : Addr).add 0))), (8, va10), (9, .pointer (some ((⟨g14, 0, none⟩ : Addr).add 0))), (10, .pointer (some ((⟨g15, 0, none⟩ : Addr).add 0)))] := hf.sub ⟨rfl, rfl, rfl, rfl, rfl, rfl, rfl, trivial⟩
            refine c_drawL (h := 11) mixed (by kernel_rfl) (by kernel_rfl) (fun ρ w => Va ρ w 1 g1 28 ([.int .i64 a0.p, .int .i64 a0.n, .int .i64 a0.m, .int .i64 a0.k, va0]) ∧ Va ρ w 2 g2 28 ([.int .i64 0, .int .i64 0, .int .i64 0, .int .i64 0, (.slice none 0 0)]) ∧ Ow (kf cProd) 78 ρ w w0.heap.size 3 (.slice none 0 0) ([] : List Prod) ∧ Ow (kf cProd) 78 ρ w w0.heap.size 11 va10 (([] : List Prod) ++ a0.ps) ∧ Va ρ w 14 g14 78 (cProd.enc (gl zProd (([] : List Prod) ++ a0.ps) a1)) ∧ Va ρ w 15 g15 78 (cProd.enc (gl zProd (([] : List Prod) ++ a0.ps) a2))) ?_ [fun ρ w v => va10 = v, fun ρ w v => .int .i64 a1 = v, fun ρ w v => .agg (cProd.enc (gl zProd (([] : List Prod) ++ a0.ps) a1)).toArray = v, fun ρ w v => .pointer (some ((⟨g1, 0, none⟩ : Addr).add (0 + 0))) = v, fun ρ w v => .int .i64 a0.p = v, fun ρ w v => .pointer (some ((⟨g14, 0, none⟩ : Addr).add (0 + 0))) = v, fun ρ w v => .agg (cForm.enc ((gl zProd (([] : List Prod) ++ a0.ps) a1).1)).toArray = v, fun ρ w v => .pointer (some ((⟨g15, 0, none⟩ : Addr).add (0 + 0))) = v, fun ρ w v => .agg (cForm.enc ((gl zProd (([] : List Prod) ++ a0.ps) a2).1)).toArray = v, fun ρ w v => .agg (cForm.enc x15).toArray = v, fun ρ w v => .agg (cProd.enc x17).toArray = v] ?_ hw ⟨o1, o2, o3, o11, o14, o15⟩ hf ?_ ?_
            · intro ρ w ρ' w' hE hG
              obtain ⟨o1, o2, o3, o11, o14, o15⟩ := hG
              exact ⟨o1.ext hE, o2.ext hE, o3.ext hE, o11.ext hE, o14.ext hE, o15.ext hE⟩
            · exact LastsL.cons (fun _ _ _ _ _ _ h => h) <| LastsL.cons (fun _ _ _ _ _ _ h => h) <| LastsL.cons (fun _ _ _ _ _ _ h => h) <| LastsL.cons (fun _ _ _ _ _ _ h => h) <| LastsL.cons (fun _ _ _ _ _ _ h => h) <| LastsL.cons (fun _ _ _ _ _ _ h => h) <| LastsL.cons (fun _ _ _ _ _ _ h => h) <| LastsL.cons (fun _ _ _ _ _ _ h => h) <| LastsL.cons (fun _ _ _ _ _ _ h => h) <| LastsL.cons (fun _ _ _ _ _ _ h => h) <| LastsL.cons (fun _ _ _ _ _ _ h => h) <| LastsL.nil
            · refine StepsB.cons ?_ <| StepsB.cons ?_ <| StepsB.cons ?_ <| StepsB.cons ?_ <| StepsB.cons ?_ <| StepsB.cons ?_ <| StepsB.cons ?_ <| StepsB.cons ?_ <| StepsB.cons ?_ <| StepsB.cons ?_ <| StepsB.cons ?_ <| StepsB.nil
              · intro ρ w a hw hG hf hd K hK
                obtain ⟨o1, o2, o3, o11, o14, o15⟩ := hG
                exact d_val (R := fun ρ w v => va10 = v) hw (wn rfl) (r_move hf rfl) rfl rfl hK
              · intro ρ w a hw hG hf hd K hK
                obtain ⟨o1, o2, o3, o11, o14, o15⟩ := hG
                exact d_val (R := fun ρ w v => .int .i64 a1 = v) hw (wn rfl) (r_move hf rfl) rfl rfl hK
              · intro ρ w a hw hG hf hd K hK
                obtain ⟨o1, o2, o3, o11, o14, o15⟩ := hG
                exact d_val (R := fun ρ w v => .agg (cProd.enc (gl zProd (([] : List Prod) ++ a0.ps) a1)).toArray = v) hw (wn rfl) (r_load_agg ty78 hf rfl o14.cl (cProd.len _)) rfl rfl hK
              · intro ρ w a hw hG hf hd K hK
                obtain ⟨o1, o2, o3, o11, o14, o15⟩ := hG
                exact d_val (R := fun ρ w v => .pointer (some ((⟨g1, 0, none⟩ : Addr).add (0 + 0))) = v) hw (wn rfl) (r_fa fa28_0 hf rfl) rfl rfl hK
              · intro ρ w a hw hG hf hd K hK
                obtain ⟨o1, o2, o3, o11, o14, o15⟩ := hG
                obtain ⟨_, ht, rfl⟩ := hd 3 (by kernel_rfl)
                replace hf := hf.more ht
                exact d_val (R := fun ρ w v => .int .i64 a0.p = v) hw (wn rfl) (r_load_cell ty2 hf rfl (o1.cl.at_ 0 _ rfl)) rfl rfl hK
              · intro ρ w a hw hG hf hd K hK
                obtain ⟨o1, o2, o3, o11, o14, o15⟩ := hG
                exact d_val (R := fun ρ w v => .pointer (some ((⟨g14, 0, none⟩ : Addr).add (0 + 0))) = v) hw (wn rfl) (r_fa fa78_0 hf rfl) rfl rfl hK
              · intro ρ w a hw hG hf hd K hK
                obtain ⟨o1, o2, o3, o11, o14, o15⟩ := hG
                obtain ⟨_, ht, rfl⟩ := hd 5 (by kernel_rfl)
                replace hf := hf.more ht
                exact d_val (R := fun ρ w v => .agg (cForm.enc ((gl zProd (([] : List Prod) ++ a0.ps) a1).1)).toArray = v) hw (wn rfl) (r_load_agg ty39 hf rfl (o14.cl.lens lProd_0) (cForm.len _)) rfl rfl hK
              · intro ρ w a hw hG hf hd K hK
                obtain ⟨o1, o2, o3, o11, o14, o15⟩ := hG
                exact d_val (R := fun ρ w v => .pointer (some ((⟨g15, 0, none⟩ : Addr).add (0 + 0))) = v) hw (wn rfl) (r_fa fa78_0 hf rfl) rfl rfl hK
              · intro ρ w a hw hG hf hd K hK
                obtain ⟨o1, o2, o3, o11, o14, o15⟩ := hG
                obtain ⟨_, ht, rfl⟩ := hd 7 (by kernel_rfl)
                replace hf := hf.more ht
                exact d_val (R := fun ρ w v => .agg (cForm.enc ((gl zProd (([] : List Prod) ++ a0.ps) a2).1)).toArray = v) hw (wn rfl) (r_load_agg ty39 hf rfl (o15.cl.lens lProd_0) (cForm.len _)) rfl rfl hK
              · intro ρ w a hw hG hf hd K hK
                obtain ⟨o1, o2, o3, o11, o14, o15⟩ := hG
                obtain ⟨_, ht, rfl⟩ := hd 4 (by kernel_rfl)
                replace hf := hf.more ht
                obtain ⟨_, ht, rfl⟩ := hd 6 (by kernel_rfl)
                replace hf := hf.more ht
                obtain ⟨_, ht, rfl⟩ := hd 8 (by kernel_rfl)
                replace hf := hf.more ht
                refine d_call (R := fun ρ w v => .agg (cForm.enc x15).toArray = v) hw (wn rfl) (r_fn en72 hf rfl) (spec_l01Add_ok  hx16) rfl (fun v w' hΦ => ?_) hK
                obtain ⟨hb, hΦ⟩ := hΦ
                obtain rfl := hΦ
                have hE := Ext.new (ρ := ρ) 16 hb
                exact ⟨_, hw.new 16 hb, hE, rfl⟩
              · intro ρ w a hw hG hf hd K hK
                obtain ⟨o1, o2, o3, o11, o14, o15⟩ := hG
                obtain ⟨_, ht, rfl⟩ := hd 2 (by kernel_rfl)
                replace hf := hf.more ht
                obtain ⟨_, ht, rfl⟩ := hd 9 (by kernel_rfl)
                replace hf := hf.more ht
                refine d_call (R := fun ρ w v => .agg (cProd.enc x17).toArray = v) hw (wn rfl) (r_fn en71 hf rfl) (spec_l03With_ok  hx18) rfl (fun v w' hΦ => ?_) hK
                obtain ⟨hb, hΦ⟩ := hΦ
                obtain rfl := hΦ
                have hE := Ext.new (ρ := ρ) 17 hb
                exact ⟨_, hw.new 17 hb, hE, rfl⟩
            · intro ρ w a hw hG hf hd
              obtain ⟨o1, o2, o3, o11, o14, o15⟩ := hG
              replace hf : Fr 89 a [(1, .int .i64 a1), (2, .int .i64 a2), (3, .pointer (some ((⟨g1, 0, none⟩ : Addr).add 0))), (6, .pointer (some ((⟨g2, 0, none⟩ : Addr).add 0))), (8, va10), (9, .pointer (some ((⟨g14, 0, none⟩ : Addr).add 0))), (10, .pointer (some ((⟨g15, 0, none⟩ : Addr).add 0)))] := hf
              obtain ⟨_, ht, rfl⟩ := hd 0 (by decide)
              replace hf := hf.more ht
              obtain ⟨_, ht, rfl⟩ := hd 1 (by decide)
              replace hf := hf.more ht
              obtain ⟨_, ht, rfl⟩ := hd 10 (by decide)
              replace hf := hf.more ht
              obtain ⟨ad19, hl19⟩ := Ow.ce (d := cProd) o11 zProd hc11.1 hc11.2
              refine st hf rfl rfl (by decide) (r_idx Try.underlying26 sz78 hf rfl hl19.at_ rfl hc11.1 hc11.2) fun a hf => ?_
              refine st_skip hf rfl rfl (r_store_ec (b := x17) zProd hw (by decide) o11 hc11.1 hc11.2 (Lens.id _) hl19.at_ ty78 (by first | rfl | exact Nat.add_assoc _ _ _ | (simp only [Nat.add_assoc]; rfl)) hf rfl rfl rfl) fun a w hf hΦ => ?_
              obtain ⟨hw, hA, o11⟩ := hΦ
              replace o1 := o1.adv hA (by decide)
              replace o2 := o2.adv hA (by decide)
              replace o3 := o3.adv hA (by decide)
              replace o14 := o14.adv hA (by decide)
              replace o15 := o15.adv hA (by decide)
              refine c_nt ?_
              refine c_seq ?_
              obtain ⟨x20, hx21, hF⟩ := of_bind hF
              replace hf : Fr 89 a [(2, .int .i64 a2), (3, .pointer (some ((⟨g1, 0, none⟩ : Addr).add 0))), (6, .pointer (some ((⟨g2, 0, none⟩ : Addr).add 0))), (8, va10), (9, .pointer (some ((⟨g14, 0, none⟩ : Addr).add 0))), (10, .pointer (some ((⟨g15, 0, none⟩ : Addr).add 0)))] := hf.sub ⟨rfl, rfl, rfl, rfl, rfl, rfl, trivial⟩
              refine c_drawL (h := 14) mixed (by kernel_rfl) (by kernel_rfl) (fun ρ w => Va ρ w 1 g1 28 ([.int .i64 a0.p, .int .i64 a0.n, .int .i64 a0.m, .int .i64 a0.k, va0]) ∧ Va ρ w 2 g2 28 ([.int .i64 0, .int .i64 0, .int .i64 0, .int .i64 0, (.slice none 0 0)]) ∧ Ow (kf cProd) 78 ρ w w0.heap.size 3 (.slice none 0 0) ([] : List Prod) ∧ Ow (kf cProd) 78 ρ w w0.heap.size 11 va10 ((([] : List Prod) ++ a0.ps).set a1.toNat x17) ∧ Va ρ w 14 g14 78 (cProd.enc (gl zProd (([] : List Prod) ++ a0.ps) a1)) ∧ Va ρ w 15 g15 78 (cProd.enc (gl zProd (([] : List Prod) ++ a0.ps) a2))) ?_ [fun ρ w v => va10 = v, fun ρ w v => .int .i64 a2 = v, fun ρ w v => .pointer (some ((⟨g15, 0, none⟩ : Addr).add (0 + 0))) = v, fun ρ w v => .agg (cForm.enc ((gl zProd (([] : List Prod) ++ a0.ps) a2).1)).toArray = v, fun ρ w v => .pointer (some ((⟨g14, 0, none⟩ : Addr).add (0 + 9))) = v, fun ρ w v => .agg (cForm.enc ((gl zProd (([] : List Prod) ++ a0.ps) a1).2.1)).toArray = v, fun ρ w v => .pointer (some ((⟨g1, 0, none⟩ : Addr).add (0 + 0))) = v, fun ρ w v => .int .i64 a0.p = v, fun ρ w v => .pointer (some ((⟨g14, 0, none⟩ : Addr).add (0 + 18))) = v, fun ρ w v => .agg (cForm.enc ((gl zProd (([] : List Prod) ++ a0.ps) a1).2.2)).toArray = v, fun ρ w v => .pointer (some ((⟨g15, 0, none⟩ : Addr).add (0 + 18))) = v, fun ρ w v => .agg (cForm.enc ((gl zProd (([] : List Prod) ++ a0.ps) a2).2.2)).toArray = v, fun ρ w v => .agg (cForm.enc x20).toArray = v, fun ρ w v => .agg (cProd.enc ((gl zProd (([] : List Prod) ++ a0.ps) a2).1, (gl zProd (([] : List Prod) ++ a0.ps) a1).2.1, x20)).toArray = v] ?_ hw ⟨o1, o2, o3, o11, o14, o15⟩ hf ?_ ?_
              · intro ρ w ρ' w' hE hG
                obtain ⟨o1, o2, o3, o11, o14, o15⟩ := hG
                exact ⟨o1.ext hE, o2.ext hE, o3.ext hE, o11.ext hE, o14.ext hE, o15.ext hE⟩
              · exact LastsL.cons (fun _ _ _ _ _ _ h => h) <| LastsL.cons (fun _ _ _ _ _ _ h => h) <| LastsL.cons (fun _ _ _ _ _ _ h => h) <| LastsL.cons (fun _ _ _ _ _ _ h => h) <| LastsL.cons (fun _ _ _ _ _ _ h => h) <| LastsL.cons (fun _ _ _ _ _ _ h => h) <| LastsL.cons (fun _ _ _ _ _ _ h => h) <| LastsL.cons (fun _ _ _ _ _ _ h => h) <| LastsL.cons (fun _ _ _ _ _ _ h => h) <| LastsL.cons (fun _ _ _ _ _ _ h => h) <| LastsL.cons (fun _ _ _ _ _ _ h => h) <| LastsL.cons (fun _ _ _ _ _ _ h => h) <| LastsL.cons (fun _ _ _ _ _ _ h => h) <| LastsL.cons (fun _ _ _ _ _ _ h => h) <| LastsL.nil
              · refine StepsB.cons ?_ <| StepsB.cons ?_ <| StepsB.cons ?_ <| StepsB.cons ?_ <| StepsB.cons ?_ <| StepsB.cons ?_ <| StepsB.cons ?_ <| StepsB.cons ?_ <| StepsB.cons ?_ <| StepsB.cons ?_ <| StepsB.cons ?_ <| StepsB.cons ?_ <| StepsB.cons ?_ <| StepsB.cons ?_ <| StepsB.nil
                · intro ρ w a hw hG hf hd K hK
                  obtain ⟨o1, o2, o3, o11, o14, o15⟩ := hG
                  exact d_val (R := fun ρ w v => va10 = v) hw (wn rfl) (r_move hf rfl) rfl rfl hK
                · intro ρ w a hw hG hf hd K hK
                  obtain ⟨o1, o2, o3, o11, o14, o15⟩ := hG
                  exact d_val (R := fun ρ w v => .int .i64 a2 = v) hw (wn rfl) (r_move hf rfl) rfl rfl hK
                · intro ρ w a hw hG hf hd K hK
                  obtain ⟨o1, o2, o3, o11, o14, o15⟩ := hG
                  exact d_val (R := fun ρ w v => .pointer (some ((⟨g15, 0, none⟩ : Addr).add (0 + 0))) = v) hw (wn rfl) (r_fa fa78_0 hf rfl) rfl rfl hK
                · intro ρ w a hw hG hf hd K hK
                  obtain ⟨o1, o2, o3, o11, o14, o15⟩ := hG
                  obtain ⟨_, ht, rfl⟩ := hd 2 (by kernel_rfl)
                  replace hf := hf.more ht
                  exact d_val (R := fun ρ w v => .agg (cForm.enc ((gl zProd (([] : List Prod) ++ a0.ps) a2).1)).toArray = v) hw (wn rfl) (r_load_agg ty39 hf rfl (o15.cl.lens lProd_0) (cForm.len _)) rfl rfl hK
                · intro ρ w a hw hG hf hd K hK
                  obtain ⟨o1, o2, o3, o11, o14, o15⟩ := hG
                  exact d_val (R := fun ρ w v => .pointer (some ((⟨g14, 0, none⟩ : Addr).add (0 + 9))) = v) hw (wn rfl) (r_fa fa78_1 hf rfl) rfl rfl hK
                · intro ρ w a hw hG hf hd K hK
                  obtain ⟨o1, o2, o3, o11, o14, o15⟩ := hG
                  obtain ⟨_, ht, rfl⟩ := hd 4 (by kernel_rfl)
                  replace hf := hf.more ht
                  exact d_val (R := fun ρ w v => .agg (cForm.enc ((gl zProd (([] : List Prod) ++ a0.ps) a1).2.1)).toArray = v) hw (wn rfl) (r_load_agg ty39 hf rfl (o14.cl.lens lProd_1) (cForm.len _)) rfl rfl hK
                · intro ρ w a hw hG hf hd K hK
                  obtain ⟨o1, o2, o3, o11, o14, o15⟩ := hG
                  exact d_val (R := fun ρ w v => .pointer (some ((⟨g1, 0, none⟩ : Addr).add (0 + 0))) = v) hw (wn rfl) (r_fa fa28_0 hf rfl) rfl rfl hK
                · intro ρ w a hw hG hf hd K hK
                  obtain ⟨o1, o2, o3, o11, o14, o15⟩ := hG
                  obtain ⟨_, ht, rfl⟩ := hd 6 (by kernel_rfl)
                  replace hf := hf.more ht
                  exact d_val (R := fun ρ w v => .int .i64 a0.p = v) hw (wn rfl) (r_load_cell ty2 hf rfl (o1.cl.at_ 0 _ rfl)) rfl rfl hK
                · intro ρ w a hw hG hf hd K hK
                  obtain ⟨o1, o2, o3, o11, o14, o15⟩ := hG
                  exact d_val (R := fun ρ w v => .pointer (some ((⟨g14, 0, none⟩ : Addr).add (0 + 18))) = v) hw (wn rfl) (r_fa fa78_2 hf rfl) rfl rfl hK
                · intro ρ w a hw hG hf hd K hK
                  obtain ⟨o1, o2, o3, o11, o14, o15⟩ := hG
                  obtain ⟨_, ht, rfl⟩ := hd 8 (by kernel_rfl)
                  replace hf := hf.more ht
                  exact d_val (R := fun ρ w v => .agg (cForm.enc ((gl zProd (([] : List Prod) ++ a0.ps) a1).2.2)).toArray = v) hw (wn rfl) (r_load_agg ty39 hf rfl (o14.cl.lens lProd_2) (cForm.len _)) rfl rfl hK
                · intro ρ w a hw hG hf hd K hK
                  obtain ⟨o1, o2, o3, o11, o14, o15⟩ := hG
                  exact d_val (R := fun ρ w v => .pointer (some ((⟨g15, 0, none⟩ : Addr).add (0 + 18))) = v) hw (wn rfl) (r_fa fa78_2 hf rfl) rfl rfl hK
                · intro ρ w a hw hG hf hd K hK
                  obtain ⟨o1, o2, o3, o11, o14, o15⟩ := hG
                  obtain ⟨_, ht, rfl⟩ := hd 10 (by kernel_rfl)
                  replace hf := hf.more ht
                  exact d_val (R := fun ρ w v => .agg (cForm.enc ((gl zProd (([] : List Prod) ++ a0.ps) a2).2.2)).toArray = v) hw (wn rfl) (r_load_agg ty39 hf rfl (o15.cl.lens lProd_2) (cForm.len _)) rfl rfl hK
                · intro ρ w a hw hG hf hd K hK
                  obtain ⟨o1, o2, o3, o11, o14, o15⟩ := hG
                  obtain ⟨_, ht, rfl⟩ := hd 7 (by kernel_rfl)
                  replace hf := hf.more ht
                  obtain ⟨_, ht, rfl⟩ := hd 9 (by kernel_rfl)
                  replace hf := hf.more ht
                  obtain ⟨_, ht, rfl⟩ := hd 11 (by kernel_rfl)
                  replace hf := hf.more ht
                  refine d_call (R := fun ρ w v => .agg (cForm.enc x20).toArray = v) hw (wn rfl) (r_fn en72 hf rfl) (spec_l01Add_ok  hx21) rfl (fun v w' hΦ => ?_) hK
                  obtain ⟨hb, hΦ⟩ := hΦ
                  obtain rfl := hΦ
                  have hE := Ext.new (ρ := ρ) 19 hb
                  exact ⟨_, hw.new 19 hb, hE, rfl⟩
                · intro ρ w a hw hG hf hd K hK
                  obtain ⟨o1, o2, o3, o11, o14, o15⟩ := hG
                  obtain ⟨_, ht, rfl⟩ := hd 3 (by kernel_rfl)
                  replace hf := hf.more ht
                  obtain ⟨_, ht, rfl⟩ := hd 5 (by kernel_rfl)
                  replace hf := hf.more ht
                  obtain ⟨_, ht, rfl⟩ := hd 12 (by kernel_rfl)
                  replace hf := hf.more ht
                  exact d_val (R := fun ρ w v => .agg (cProd.enc ((gl zProd (([] : List Prod) ++ a0.ps) a2).1, (gl zProd (([] : List Prod) ++ a0.ps) a1).2.1, x20)).toArray = v) hw (wn rfl) (r_build_struct (pl := [(0, 9), (9, 9), (18, 9)]) (vs := [(0, .agg (cForm.enc ((gl zProd (([] : List Prod) ++ a0.ps) a2).1)).toArray), (1, .agg (cForm.enc ((gl zProd (([] : List Prod) ++ a0.ps) a1).2.1)).toArray), (2, .agg (cForm.enc x20).toArray)]) (res := (cProd.enc ((gl zProd (([] : List Prod) ++ a0.ps) a2).1, (gl zProd (([] : List Prod) ++ a0.ps) a1).2.1, x20)).toArray) Try.underlying78 (by kernel_rfl) ze78 hf rfl rfl ((fill_lens (d := cProd) (z := zProd) lProd_0 rfl rfl).trans ((fill_lens (d := cProd) (z := ((gl zProd (([] : List Prod) ++ a0.ps) a2).1, zProd.2.1, zProd.2.2)) lProd_1 rfl rfl).trans ((fill_lens (d := cProd) (z := ((gl zProd (([] : List Prod) ++ a0.ps) a2).1, (gl zProd (([] : List Prod) ++ a0.ps) a1).2.1, zProd.2.2)) lProd_2 rfl rfl).trans rfl)))) rfl rfl hK
              · intro ρ w a hw hG hf hd
                obtain ⟨o1, o2, o3, o11, o14, o15⟩ := hG
                replace hf : Fr 89 a [(2, .int .i64 a2), (3, .pointer (some ((⟨g1, 0, none⟩ : Addr).add 0))), (6, .pointer (some ((⟨g2, 0, none⟩ : Addr).add 0))), (8, va10), (9, .pointer (some ((⟨g14, 0, none⟩ : Addr).add 0))), (10, .pointer (some ((⟨g15, 0, none⟩ : Addr).add 0)))] := hf
                obtain ⟨_, ht, rfl⟩ := hd 0 (by decide)
                replace hf := hf.more ht
                obtain ⟨_, ht, rfl⟩ := hd 1 (by decide)
                replace hf := hf.more ht
                obtain ⟨_, ht, rfl⟩ := hd 13 (by decide)
                replace hf := hf.more ht
                obtain ⟨hc22, hF⟩ := of_guard hF
                obtain ⟨ad23, hl23⟩ := Ow.ce (d := cProd) o11 zProd hc22.1 hc22.2
                refine st hf rfl rfl (by decide) (r_idx Try.underlying26 sz78 hf rfl hl23.at_ rfl hc22.1 hc22.2) fun a hf => ?_
                refine st_skip hf rfl rfl (r_store_ec (b := ((gl zProd (([] : List Prod) ++ a0.ps) a2).1, (gl zProd (([] : List Prod) ++ a0.ps) a1).2.1, x20)) zProd hw (by decide) o11 hc22.1 hc22.2 (Lens.id _) hl23.at_ ty78 (by first | rfl | exact Nat.add_assoc _ _ _ | (simp only [Nat.add_assoc]; rfl)) hf rfl rfl rfl) fun a w hf hΦ => ?_
                obtain ⟨hw, hA, o11⟩ := hΦ
                replace o1 := o1.adv hA (by decide)
                replace o2 := o2.adv hA (by decide)
                replace o3 := o3.adv hA (by decide)
                replace o14 := o14.adv hA (by decide)
                replace o15 := o15.adv hA (by decide)
                refine c_nt ?_
                refine c_seq ?_
                obtain ⟨x24, hx25, hF⟩ := of_bind hF
                obtain ⟨x26, hx27, hF⟩ := of_bind hF
                replace hf : Fr 89 a [(3, .pointer (some ((⟨g1, 0, none⟩ : Addr).add 0))), (6, .pointer (some ((⟨g2, 0, none⟩ : Addr).add 0))), (8, va10), (9, .pointer (some ((⟨g14, 0, none⟩ : Addr).add 0))), (10, .pointer (some ((⟨g15, 0, none⟩ : Addr).add 0)))] := hf.sub ⟨rfl, rfl, rfl, rfl, rfl, trivial⟩
                refine c_drawL (h := 11) mixed (by kernel_rfl) (by kernel_rfl) (fun ρ w => Va ρ w 1 g1 28 ([.int .i64 a0.p, .int .i64 a0.n, .int .i64 a0.m, .int .i64 a0.k, va0]) ∧ Va ρ w 2 g2 28 ([.int .i64 0, .int .i64 0, .int .i64 0, .int .i64 0, (.slice none 0 0)]) ∧ Ow (kf cProd) 78 ρ w w0.heap.size 3 (.slice none 0 0) ([] : List Prod) ∧ Ow (kf cProd) 78 ρ w w0.heap.size 11 va10 (((([] : List Prod) ++ a0.ps).set a1.toNat x17).set a2.toNat ((gl zProd (([] : List Prod) ++ a0.ps) a2).1, (gl zProd (([] : List Prod) ++ a0.ps) a1).2.1, x20)) ∧ Va ρ w 14 g14 78 (cProd.enc (gl zProd (([] : List Prod) ++ a0.ps) a1)) ∧ Va ρ w 15 g15 78 (cProd.enc (gl zProd (([] : List Prod) ++ a0.ps) a2))) ?_ [fun ρ w v => va10 = v, fun ρ w v => .agg (cProd.enc (gl zProd (([] : List Prod) ++ a0.ps) a2)).toArray = v, fun ρ w v => .pointer (some ((⟨g1, 0, none⟩ : Addr).add (0 + 0))) = v, fun ρ w v => .int .i64 a0.p = v, fun ρ w v => .pointer (some ((⟨g15, 0, none⟩ : Addr).add (0 + 9))) = v, fun ρ w v => .agg (cForm.enc ((gl zProd (([] : List Prod) ++ a0.ps) a2).2.1)).toArray = v, fun ρ w v => .pointer (some ((⟨g14, 0, none⟩ : Addr).add (0 + 9))) = v, fun ρ w v => .agg (cForm.enc ((gl zProd (([] : List Prod) ++ a0.ps) a1).2.1)).toArray = v, fun ρ w v => .agg (cForm.enc x24).toArray = v, fun ρ w v => .agg (cProd.enc x26).toArray = v, fun ρ w v => ∃ v23, v23 = v ∧ Ow (kf cProd) 78 ρ w w0.heap.size 23 v23 ([x26])] ?_ hw ⟨o1, o2, o3, o11, o14, o15⟩ hf ?_ ?_
                · intro ρ w ρ' w' hE hG
                  obtain ⟨o1, o2, o3, o11, o14, o15⟩ := hG
                  exact ⟨o1.ext hE, o2.ext hE, o3.ext hE, o11.ext hE, o14.ext hE, o15.ext hE⟩
                · exact LastsL.cons (fun _ _ _ _ _ _ h => h) <| LastsL.cons (fun _ _ _ _ _ _ h => h) <| LastsL.cons (fun _ _ _ _ _ _ h => h) <| LastsL.cons (fun _ _ _ _ _ _ h => h) <| LastsL.cons (fun _ _ _ _ _ _ h => h) <| LastsL.cons (fun _ _ _ _ _ _ h => h) <| LastsL.cons (fun _ _ _ _ _ _ h => h) <| LastsL.cons (fun _ _ _ _ _ _ h => h) <| LastsL.cons (fun _ _ _ _ _ _ h => h) <| LastsL.cons (fun _ _ _ _ _ _ h => h) <| LastsL.cons (fun _ _ _ _ _ hE h => by obtain ⟨v23, h, o23⟩ := h; exact ⟨_, h, o23.ext hE⟩) <| LastsL.nil
                · refine StepsB.cons ?_ <| StepsB.cons ?_ <| StepsB.cons ?_ <| StepsB.cons ?_ <| StepsB.cons ?_ <| StepsB.cons ?_ <| StepsB.cons ?_ <| StepsB.cons ?_ <| StepsB.cons ?_ <| StepsB.cons ?_ <| StepsB.cons ?_ <| StepsB.nil
                  · intro ρ w a hw hG hf hd K hK
                    obtain ⟨o1, o2, o3, o11, o14, o15⟩ := hG
                    exact d_val (R := fun ρ w v => va10 = v) hw (wn rfl) (r_move hf rfl) rfl rfl hK
                  · intro ρ w a hw hG hf hd K hK
                    obtain ⟨o1, o2, o3, o11, o14, o15⟩ := hG
                    exact d_val (R := fun ρ w v => .agg (cProd.enc (gl zProd (([] : List Prod) ++ a0.ps) a2)).toArray = v) hw (wn rfl) (r_load_agg ty78 hf rfl o15.cl (cProd.len _)) rfl rfl hK
                  · intro ρ w a hw hG hf hd K hK
                    obtain ⟨o1, o2, o3, o11, o14, o15⟩ := hG
                    exact d_val (R := fun ρ w v => .pointer (some ((⟨g1, 0, none⟩ : Addr).add (0 + 0))) = v) hw (wn rfl) (r_fa fa28_0 hf rfl) rfl rfl hK
                  · intro ρ w a hw hG hf hd K hK
                    obtain ⟨o1, o2, o3, o11, o14, o15⟩ := hG
                    obtain ⟨_, ht, rfl⟩ := hd 2 (by kernel_rfl)
                    replace hf := hf.more ht
                    exact d_val (R := fun ρ w v => .int .i64 a0.p = v) hw (wn rfl) (r_load_cell ty2 hf rfl (o1.cl.at_ 0 _ rfl)) rfl rfl hK
                  · intro ρ w a hw hG hf hd K hK
                    obtain ⟨o1, o2, o3, o11, o14, o15⟩ := hG
                    exact d_val (R := fun ρ w v => .pointer (some ((⟨g15, 0, none⟩ : Addr).add (0 + 9))) = v) hw (wn rfl) (r_fa fa78_1 hf rfl) rfl rfl hK
                  · intro ρ w a hw hG hf hd K hK
                    obtain ⟨o1, o2, o3, o11, o14, o15⟩ := hG
                    obtain ⟨_, ht, rfl⟩ := hd 4 (by kernel_rfl)
                    replace hf := hf.more ht
                    exact d_val (R := fun ρ w v => .agg (cForm.enc ((gl zProd (([] : List Prod) ++ a0.ps) a2).2.1)).toArray = v) hw (wn rfl) (r_load_agg ty39 hf rfl (o15.cl.lens lProd_1) (cForm.len _)) rfl rfl hK
                  · intro ρ w a hw hG hf hd K hK
                    obtain ⟨o1, o2, o3, o11, o14, o15⟩ := hG
                    exact d_val (R := fun ρ w v => .pointer (some ((⟨g14, 0, none⟩ : Addr).add (0 + 9))) = v) hw (wn rfl) (r_fa fa78_1 hf rfl) rfl rfl hK
                  · intro ρ w a hw hG hf hd K hK
                    obtain ⟨o1, o2, o3, o11, o14, o15⟩ := hG
                    obtain ⟨_, ht, rfl⟩ := hd 6 (by kernel_rfl)
                    replace hf := hf.more ht
                    exact d_val (R := fun ρ w v => .agg (cForm.enc ((gl zProd (([] : List Prod) ++ a0.ps) a1).2.1)).toArray = v) hw (wn rfl) (r_load_agg ty39 hf rfl (o14.cl.lens lProd_1) (cForm.len _)) rfl rfl hK
                  · intro ρ w a hw hG hf hd K hK
                    obtain ⟨o1, o2, o3, o11, o14, o15⟩ := hG
                    obtain ⟨_, ht, rfl⟩ := hd 3 (by kernel_rfl)
                    replace hf := hf.more ht
                    obtain ⟨_, ht, rfl⟩ := hd 5 (by kernel_rfl)
                    replace hf := hf.more ht
                    obtain ⟨_, ht, rfl⟩ := hd 7 (by kernel_rfl)
                    replace hf := hf.more ht
                    refine d_call (R := fun ρ w v => .agg (cForm.enc x24).toArray = v) hw (wn rfl) (r_fn en72 hf rfl) (spec_l01Add_ok  hx25) rfl (fun v w' hΦ => ?_) hK
                    obtain ⟨hb, hΦ⟩ := hΦ
                    obtain rfl := hΦ
                    have hE := Ext.new (ρ := ρ) 21 hb
                    exact ⟨_, hw.new 21 hb, hE, rfl⟩
                  · intro ρ w a hw hG hf hd K hK
                    obtain ⟨o1, o2, o3, o11, o14, o15⟩ := hG
                    obtain ⟨_, ht, rfl⟩ := hd 1 (by kernel_rfl)
                    replace hf := hf.more ht
                    obtain ⟨_, ht, rfl⟩ := hd 8 (by kernel_rfl)
                    replace hf := hf.more ht
                    refine d_call (R := fun ρ w v => .agg (cProd.enc x26).toArray = v) hw (wn rfl) (r_fn en71 hf rfl) (spec_l03With_ok  hx27) rfl (fun v w' hΦ => ?_) hK
                    obtain ⟨hb, hΦ⟩ := hΦ
                    obtain rfl := hΦ
                    have hE := Ext.new (ρ := ρ) 22 hb
                    exact ⟨_, hw.new 22 hb, hE, rfl⟩
                  · intro ρ w a hw hG hf hd K hK
                    obtain ⟨o1, o2, o3, o11, o14, o15⟩ := hG
                    obtain ⟨_, ht, rfl⟩ := hd 9 (by kernel_rfl)
                    replace hf := hf.more ht
                    refine d_ex (R := fun ρ w v => ∃ v23, v23 = v ∧ Ow (kf cProd) 78 ρ w w0.heap.size 23 v23 ([x26])) hw (wn rfl) (r_lit (d := cProd) (xs := ([x26] : List Prod)) (vs := [.agg (cProd.enc x26).toArray]) 23 Try.underlying26 el78 (Nat.le_of_ble_eq_true rfl) (Nat.le_of_ble_eq_true rfl) hw hf rfl rfl rfl) rfl (fun v23 w' hΦ => ?_) hK
                    obtain ⟨ρ, hw, hE, o23⟩ := hΦ
                    exact ⟨_, hw, hE, _, rfl, o23⟩
                · intro ρ w a hw hG hf hd
                  obtain ⟨o1, o2, o3, o11, o14, o15⟩ := hG
                  replace hf : Fr 89 a [(3, .pointer (some ((⟨g1, 0, none⟩ : Addr).add 0))), (6, .pointer (some ((⟨g2, 0, none⟩ : Addr).add 0))), (8, va10), (9, .pointer (some ((⟨g14, 0, none⟩ : Addr).add 0))), (10, .pointer (some ((⟨g15, 0, none⟩ : Addr).add 0)))] := hf
                  obtain ⟨_, ht, rfl⟩ := hd 0 (by decide)
                  replace hf := hf.more ht
                  obtain ⟨_, ht, ⟨v23, rfl, o23⟩⟩ := hd 10 (by decide)
                  replace hf := hf.more ht
                  obtain ⟨hc28, hF⟩ := of_guard hF
                  refine st_ex hf rfl rfl (by decide) (r_append Try.underlying26 el78 hw (by decide) o11 o23.ro hc28 hf rfl rfl) fun a va29 w hf hΦ => ?_
                  obtain ⟨ρ, hw, hA, o11⟩ := hΦ
                  replace o1 := o1.adv hA (by decide)
                  replace o2 := o2.adv hA (by decide)
                  replace o3 := o3.adv hA (by decide)
                  replace o14 := o14.adv hA (by decide)
                  replace o15 := o15.adv hA (by decide)
                  replace o23 := o23.adv hA (by decide)
                  refine st hf rfl rfl (by decide) (r_assign hf rfl) fun a hf => ?_
                  refine c_nt ?_
                  refine c_seq ?_
                  refine c_region ?_
                  refine st hf rfl rfl (by decide) (r_load_agg ty28 hf rfl o1.cl rfl) fun a hf => ?_
                  refine st hf rfl rfl (by decide) (r_move hf rfl) fun a hf => ?_
                  obtain ⟨x30, hx31, hF⟩ := of_bind hF
                  refine st_fn 24 hw hf rfl rfl (by decide) (r_fn en73 hf rfl) (spec_l03Told_ok (a0 := a0) (h0.now hw) o11.ro hx31) fun a v w ρ hf hw hE hN hΦ => ?_
                  obtain ⟨u32, rfl, hr33⟩ := hΦ
                  replace o1 := o1.ext hE
                  replace o2 := o2.ext hE
                  replace o3 := o3.ext hE
                  replace o11 := o11.ext hE
                  replace o14 := o14.ext hE
                  replace o15 := o15.ext hE
                  replace o23 := o23.ext hE
                  have o24 := hN hr33
                  refine st_skip hf rfl rfl (r_store_w (cs' := [.int .i64 x30.p, .int .i64 x30.n, .int .i64 x30.m, .int .i64 x30.k, u32]) hw o2 (by decide) ty28 rfl rfl (one_sch o24.ro.one) hf rfl rfl rfl) fun a w hf hΦ => ?_
                  obtain ⟨hw, hA, o2⟩ := hΦ
                  replace o1 := o1.adv hA (by decide)
                  replace o3 := o3.adv hA (by decide)
                  replace o11 := o11.adv hA (by decide)
                  replace o14 := o14.adv hA (by decide)
                  replace o15 := o15.adv hA (by decide)
                  replace o23 := o23.adv hA (by decide)
                  replace o24 := o24.adv hA (by decide)
                  refine st hf rfl rfl (by decide) (r_assign hf rfl) fun a hf => ?_
                  refine c_nt ?_
                  refine c_retc ?_
                  obtain rfl := Option.some.inj hF
                  refine c_ret hf (res_ct Try.results22 ty28 hf rfl o2.cl rfl rfl) ?_
                  exact ⟨_, rfl, hw.below, ⟨_, rfl, o24.out⟩⟩
/-! f75 -/
noncomputable def impl_isIndex_l1 (a0 : Sch) (a1 : List Int) (s2 : Int) : Option (LR Int Bool) :=
  if (decide (s2 < (a1.length : Int))) = true then (if 0 ≤ s2 ∧ s2 < (a1.length : Int) then ((if (decide ((gl 0 a1 s2) < 0)) = true then (some true) else (some (decide ((a0.ps.length : Int) ≤ (gl 0 a1 s2))))).bind fun (s7 : Bool) => if s7 = true then (some (.ret false)) else (some (.next (w64 (s2 + 1))))) else none) else (some (.stop s2))
noncomputable def impl_isIndex (a0 : Sch) (a1 : List Int) : Option Bool :=
  (iter (fun s => impl_isIndex_l1 a0 a1 s) 0).bind fun o => match o with | .stop s2 => (some (true)) | .ret r => some r | .next _ => none
theorem impl_isIndex_ok {w0 : World} {a0 : Sch} {a1 : List Int} {va0 : Value} {va1 : Value} (h0 : Ro (kf cProd) w0 va0 a0.ps) (h1 : Ro (kf fI64) w0 va1 a1) {r : Bool} (hF : impl_isIndex a0 a1 = some r) :
    Calls Try.prog 75 [.agg ([.int .i64 a0.p, .int .i64 a0.n, .int .i64 a0.m, .int .i64 a0.k, va0]).toArray, va1].toArray w0 fun e w => ∃ v, e = .returned v ∧ Below w0.heap.size w0 w ∧ .bool r = v := by
  refine calls_of (k := 23) Try.func75 rfl rfl (Nat.le_of_ble_eq_true rfl) fun a hf => ?_
  replace hf : Fr 23 a [(0, .agg ([.int .i64 a0.p, .int .i64 a0.n, .int .i64 a0.m, .int .i64 a0.k, va0]).toArray), (1, va1)] := hf
  refine c_start fun w ρ hw => ?_
  unfold impl_isIndex at hF
  refine c_seq ?_
  refine c_region ?_
  refine st_ex hf rfl rfl (by decide) (r_box (cs := [.int .i64 a0.p, .int .i64 a0.n, .int .i64 a0.m, .int .i64 a0.k, va0]) 1 hw hf rfl rfl) fun a v w hf hΦ => ?_
  obtain ⟨g1, ρ, rfl, hw, hE, o1⟩ := hΦ
  refine st hf rfl rfl (by decide) (r_assign hf rfl) fun a hf => ?_
  refine c_nt ?_
  refine c_seq ?_
  refine c_seq ?_
  refine c_region ?_
  refine st hf rfl rfl (by decide) (r_move hf rfl) fun a hf => ?_
  refine st hf rfl rfl (by decide) (r_len Try.underlying61 (h1.now hw) hf rfl) fun a hf => ?_
  refine st hf rfl rfl (by decide) (r_move hf rfl) fun a hf => ?_
  refine c_nt ?_
  obtain ⟨ol1, ho1, hG1⟩ := of_bind hF
  clear hF
  refine c_block (c_loop (id := 0) (fun s => impl_isIndex_l1 a0 a1 s) (fun (s : Int) a w => ∃ ρ, Wd w0 ρ w ∧ Fr 23 a [(2, .pointer (some ((⟨g1, 0, none⟩ : Addr).add 0))), (7, va1), (8, .int .i64 (a1.length : Int)), (9, .int .i64 s)] ∧ Va ρ w 1 g1 28 ([.int .i64 a0.p, .int .i64 a0.n, .int .i64 a0.m, .int .i64 a0.k, va0])) (fun (s : Int) a w => ∃ ρ, Wd w0 ρ w ∧ Fr 23 a []) ho1 ⟨_, hw, hf.sub ⟨rfl, rfl, rfl, rfl, trivial⟩, o1⟩ ?_ ?_)
  · rintro s2 lr a w ⟨ρ, hw, hf, o1⟩ hF
    replace hf : Fr 23 a [(2, .pointer (some ((⟨g1, 0, none⟩ : Addr).add 0))), (7, va1), (8, .int .i64 (a1.length : Int)), (9, .int .i64 s2)] := hf
    replace o1 : Va ρ w 1 g1 28 ([.int .i64 a0.p, .int .i64 a0.n, .int .i64 a0.m, .int .i64 a0.k, va0]) := o1
    replace hF : impl_isIndex_l1 a0 a1 s2 = some lr := hF
    unfold impl_isIndex_l1 at hF
    refine c_seq ?_
    refine c_region ?_
    refine st hf rfl rfl (by decide) (r_lss hf rfl rfl) fun a hf => ?_
    refine c_nt ?_
    refine c_seq ?_
    rcases of_ite hF with ⟨hb3, hF⟩ | ⟨hb3, hF⟩
    · refine c_ift hf rfl hb3 ?_
      refine c_skip ?_
      refine n_then ?_
      refine c_seq ?_
      refine c_block ?_
      refine c_seq ?_
      refine c_region ?_
      obtain ⟨hc4, hF⟩ := of_guard hF
      obtain ⟨ad5, c5, he5, hl5⟩ := Ro.el fI64 h1 0 hc4.1 hc4.2
      refine st hf rfl rfl (by decide) (r_idx Try.underlying61 sz2 hf rfl ⟨_, he5⟩ rfl hc4.1 hc4.2) fun a hf => ?_
      refine st hf rfl rfl (by decide) (r_load_cell ty2 hf rfl (hl5.below hw.below)) fun a hf => ?_
      refine st hf rfl rfl (by decide) (r_assign hf rfl) fun a hf => ?_
      refine c_nt ?_
      refine c_seq ?_
      obtain ⟨s7, hT6, hG6⟩ := of_bind hF
      clear hF
      refine c_meet (fun (s : Bool) a w => ∃ ρ, Wd w0 ρ w ∧ Fr 23 a [(2, .pointer (some ((⟨g1, 0, none⟩ : Addr).add 0))), (7, va1), (8, .int .i64 (a1.length : Int)), (9, .int .i64 s2), (21, .bool s)] ∧ Va ρ w 1 g1 28 ([.int .i64 a0.p, .int .i64 a0.n, .int .i64 a0.m, .int .i64 a0.k, va0])) s7 ?_ ?_
      · have hF := hT6
        refine c_region ?_
        refine st hf rfl rfl (by decide) (r_move hf rfl) fun a hf => ?_
        refine st hf rfl rfl (by decide) (r_lss hf rfl rfl) fun a hf => ?_
        refine st hf rfl rfl (by decide) (r_move hf rfl) fun a hf => ?_
        rcases of_ite hF with ⟨hb8, hF⟩ | ⟨hb8, hF⟩
        · refine st_no (b := true) hf rfl rfl rfl hb8 rfl (by decide) fun a hf => ?_
          refine st_no (b := true) hf rfl rfl rfl hb8 rfl (by decide) fun a hf => ?_
          refine st_no (b := true) hf rfl rfl rfl hb8 rfl (by decide) fun a hf => ?_
          refine st_no (b := true) hf rfl rfl rfl hb8 rfl (by decide) fun a hf => ?_
          refine st_no (b := true) hf rfl rfl rfl hb8 rfl (by decide) fun a hf => ?_
          refine st hf rfl rfl (by decide) (r_pick (b := true) hf rfl hb8 rfl) fun a hf => ?_
          refine c_nil ⟨rfl, ?_⟩
          obtain rfl := Option.some.inj hF
          exact ⟨_, hw, hf.sub ⟨rfl, rfl, rfl, rfl, rfl, trivial⟩, o1⟩
        · refine st_g (b := false) hf rfl rfl rfl hb8 rfl (by decide) (r_move hf rfl) fun a hf => ?_
          refine st_g (b := false) hf rfl rfl rfl hb8 rfl (by decide) (r_fa fa28_4 hf rfl) fun a hf => ?_
          refine st_g (b := false) hf rfl rfl rfl hb8 rfl (by decide) (r_load_cell ty26 hf rfl (o1.cl.at_ 4 _ rfl)) fun a hf => ?_
          refine st_g (b := false) hf rfl rfl rfl hb8 rfl (by decide) (r_len Try.underlying26 (h0.now hw) hf rfl) fun a hf => ?_
          refine st_g (b := false) hf rfl rfl rfl hb8 rfl (by decide) (r_geq hf rfl rfl) fun a hf => ?_
          refine st hf rfl rfl (by decide) (r_pick (b := false) hf rfl hb8 rfl) fun a hf => ?_
          refine c_nil ⟨rfl, ?_⟩
          obtain rfl := Option.some.inj hF
          exact ⟨_, hw, hf.sub ⟨rfl, rfl, rfl, rfl, rfl, trivial⟩, o1⟩
      · rintro a w ⟨ρ, hw, hf, o1⟩
        replace hf : Fr 23 a [(2, .pointer (some ((⟨g1, 0, none⟩ : Addr).add 0))), (7, va1), (8, .int .i64 (a1.length : Int)), (9, .int .i64 s2), (21, .bool s7)] := hf
        replace o1 : Va ρ w 1 g1 28 ([.int .i64 a0.p, .int .i64 a0.n, .int .i64 a0.m, .int .i64 a0.k, va0]) := o1
        have hF := hG6
        refine n_then ?_
        rcases of_ite hF with ⟨hb9, hF⟩ | ⟨hb9, hF⟩
        · refine c_ift hf rfl hb9 ?_
          refine c_seq ?_
          refine c_region ?_
          refine st hf rfl rfl (by decide) (r_assign hf rfl) fun a hf => ?_
          refine c_nt ?_
          refine c_retc ?_
          obtain rfl := Option.some.inj hF
          refine r_block ?_
          refine r_then ?_
          refine Rnd.rets fun ho => ?_
          subst ho
          have hF := hG1
          dsimp only at hF
          obtain rfl := Option.some.inj hF
          refine r_block ?_
          refine r_then ?_
          refine c_ret hf (res_tmp Try.results75 hf rfl) ?_
          exact ⟨_, rfl, hw.below, rfl⟩
        · refine c_iff hf rfl hb9 ?_
          refine c_skip ?_
          refine n_block ?_
          refine n_then ?_
          refine c_region ?_
          refine st hf rfl rfl (by decide) (r_add hf rfl rfl) fun a hf => ?_
          refine st hf rfl rfl (by decide) (r_move hf rfl) fun a hf => ?_
          refine c_nil ?_
          obtain rfl := Option.some.inj hF
          exact Rnd.goes ⟨_, hw, hf.sub ⟨rfl, rfl, rfl, rfl, trivial⟩, o1⟩
    · refine c_iff hf rfl hb3 ?_
      refine c_exit ?_
      refine x_then ?_
      obtain rfl := Option.some.inj hF
      exact Rnd.stops ⟨_, hw, hf.sub trivial⟩
  · rintro s2 a w hs ⟨ρ, hw, hf⟩
    subst hs
    replace hf : Fr 23 a [] := hf
    have hF := hG1
    dsimp only at hF
    refine x_block ?_
    refine n_then ?_
    refine c_seq ?_
    refine c_region ?_
    refine st hf rfl rfl (by decide) (r_assign hf rfl) fun a hf => ?_
    refine c_nt ?_
    refine c_retc ?_
    obtain rfl := Option.some.inj hF
    refine c_ret hf (res_tmp Try.results75 hf rfl) ?_
    exact ⟨_, rfl, hw.below, rfl⟩
/-! f76 -/
noncomputable def slices_Clone_76 (a0 : List Prod) : Option (List Prod) :=
  if (([] : List Prod).length + a0.length) * 27 ≤ 140737488355328 then (some ((([] : List Prod) ++ a0))) else none
theorem slices_Clone_76_ok {w0 : World} {a0 : List Prod} {va0 : Value} (h0 : Ro (kf cProd) w0 va0 a0) {r : List Prod} (hF : slices_Clone_76 a0 = some r) :
    Calls Try.prog 76 [va0].toArray w0 fun e w => ∃ v, e = .returned v ∧ Below w0.heap.size w0 w ∧ ∃ u0, u0 = v ∧ Fresh (kf cProd) 78 w0 w u0 r := by
  refine calls_of (k := 8) Try.func76 rfl rfl (Nat.le_of_ble_eq_true rfl) fun a hf => ?_
  replace hf : Fr 8 a [(0, va0)] := hf
  refine c_start fun w ρ hw => ?_
  unfold slices_Clone_76 at hF
  refine c_seq ?_
  refine c_region ?_
  have o1 : Ow (kf cProd) 78 ρ w w0.heap.size 1 (.slice none 0 0) [] := Ow.nil _ _ _ _ _ _
  refine st hf rfl rfl (by decide) (r_assign hf rfl) fun a hf => ?_
  refine c_nt ?_
  refine c_seq ?_
  refine c_seq ?_
  refine c_region ?_
  refine st hf rfl rfl (by decide) (r_move hf rfl) fun a hf => ?_
  rcases Ro.nil_or (h0.now hw) with hn1 | hn1
  · replace hF := (show (some (([] : List Prod))) = (if (([] : List Prod).length + a0.length) * 27 ≤ 140737488355328 then (some ((([] : List Prod) ++ a0))) else none) from by simp [hn1.2]).trans hF
    refine st hf rfl rfl (by decide) (r_isnil hf rfl hn1.1 rfl Try.underlying26) fun a hf => ?_
    refine c_nt ?_
    refine c_true hf rfl ?_
    refine c_seq ?_
    refine c_region ?_
    have o2 : Ow (kf cProd) 78 ρ w w0.heap.size 2 (.slice none 0 0) [] := Ow.nil _ _ _ _ _ _
    refine st hf rfl rfl (by decide) (r_assign hf rfl) fun a hf => ?_
    refine c_nt ?_
    refine c_retc ?_
    obtain rfl := Option.some.inj hF
    refine r_then ?_
    refine c_ret hf (res_tmp Try.results76 hf rfl) ?_
    exact ⟨_, rfl, hw.below, ⟨_, rfl, o2.out⟩⟩
  · refine st hf rfl rfl (by decide) (r_nonil hf rfl hn1 rfl Try.underlying26) fun a hf => ?_
    refine c_nt ?_
    refine c_false hf rfl ?_
    refine c_skip ?_
    refine n_then ?_
    refine c_seq ?_
    refine c_region ?_
    refine st_ex hf rfl rfl (by decide) (r_lit (d := cProd) (xs := ([] : List Prod)) (vs := []) 3 Try.underlying26 el78 (Nat.le_of_ble_eq_true rfl) (Nat.le_of_ble_eq_true rfl) hw hf rfl rfl rfl) fun a v3 w hf hΦ => ?_
    obtain ⟨ρ, hw, hE, o3⟩ := hΦ
    replace o1 := o1.ext hE
    refine st hf rfl rfl (by decide) (r_move hf rfl) fun a hf => ?_
    obtain ⟨hc2, hF⟩ := of_guard hF
    refine st_ex hf rfl rfl (by decide) (r_append Try.underlying26 el78 hw (by decide) o3 (h0.now hw) hc2 hf rfl rfl) fun a va3 w hf hΦ => ?_
    obtain ⟨ρ, hw, hA, o3⟩ := hΦ
    replace o1 := o1.adv hA (by decide)
    refine st hf rfl rfl (by decide) (r_assign hf rfl) fun a hf => ?_
    refine c_nt ?_
    refine c_retc ?_
    obtain rfl := Option.some.inj hF
    refine c_ret hf (res_tmp Try.results76 hf rfl) ?_
    exact ⟨_, rfl, hw.below, ⟨_, rfl, o3.out⟩⟩
/-! f78 -/
noncomputable def impl_with (a0 : Sch) (a1 : List Prod) : Option Sch :=
  some ((⟨a0.p, a0.n, a0.m, a0.k, a1⟩ : Sch))
theorem impl_with_ok {w0 ws : World} {ρ0 : Nat → Nat} {i : Nat} (hi : i ≠ 0) (hW : Wd w0 ρ0 ws) {a0 : Sch} {a1 : List Prod} {va0 : Value} {va1 : Value} (h0 : Ro (kf cProd) w0 va0 a0.ps) (h1 : Ow (kf cProd) 78 ρ0 ws w0.heap.size i va1 a1) {r : Sch} (hF : impl_with a0 a1 = some r) :
    Calls Try.prog 78 [.agg ([.int .i64 a0.p, .int .i64 a0.n, .int .i64 a0.m, .int .i64 a0.k, va0]).toArray, va1].toArray ws fun e w => ∃ v, e = .returned v ∧ ∃ ρ', Wd w0 ρ' w ∧ Adv i ρ0 ws ρ' w ∧ ∃ u0, .agg [.int .i64 r.p, .int .i64 r.n, .int .i64 r.m, .int .i64 r.k, u0].toArray = v ∧ Ow (kf cProd) 78 ρ' w w0.heap.size i u0 r.ps := by
  refine calls_of (k := 8) Try.func78 rfl rfl (Nat.le_of_ble_eq_true rfl) fun a hf => ?_
  replace hf : Fr 8 a [(0, .agg ([.int .i64 a0.p, .int .i64 a0.n, .int .i64 a0.m, .int .i64 a0.k, va0]).toArray), (1, va1)] := hf
  refine c_startm hi hW h1 fun w ρ hw oA o1 => ?_
  unfold impl_with at hF
  refine c_seq ?_
  refine c_region ?_
  refine st_ex hf rfl rfl (by decide) (r_box (cs := [.int .i64 a0.p, .int .i64 a0.n, .int .i64 a0.m, .int .i64 a0.k, va0]) 2 hw hf rfl rfl) fun a v w hf hΦ => ?_
  obtain ⟨g2, ρ, rfl, hw, hE, o2⟩ := hΦ
  replace oA := oA.ext hE
  replace o1 := o1.ext hE
  have o4 : Ow (kf cProd) 78 ρ w w0.heap.size 4 (.slice none 0 0) [] := Ow.nil _ _ _ _ _ _
  refine st_ex hf rfl rfl (by decide) (r_alloc (cs := [.int .i64 0, .int .i64 0, .int .i64 0, .int .i64 0, (.slice none 0 0)]) 3 ze28 rfl hw) fun a v w hf hΦ => ?_
  obtain ⟨g3, ρ, rfl, hw, hE, o3⟩ := hΦ
  replace oA := oA.ext hE
  replace o1 := o1.ext hE
  replace o2 := o2.ext hE
  replace o4 := o4.ext hE
  refine c_nt ?_
  refine c_seq ?_
  refine c_region ?_
  refine st hf rfl rfl (by decide) (r_move hf rfl) fun a hf => ?_
  refine st hf rfl rfl (by decide) (r_fa fa28_4 hf rfl) fun a hf => ?_
  refine st_skip hf rfl rfl (r_store_c hw o2 (by decide) ty26 (Nat.le_of_ble_eq_true rfl) hf rfl rfl o1.ro.cells1 o1.ro.one) fun a w hf hΦ => ?_
  obtain ⟨hw, hA, o2⟩ := hΦ
  replace oA := oA.adv hA (by decide)
  replace o1 := o1.adv hA (by decide)
  replace o4 := o4.adv hA (by decide)
  replace o3 := o3.adv hA (by decide)
  replace o2 : Va ρ w 2 g2 28 ([.int .i64 a0.p, .int .i64 a0.n, .int .i64 a0.m, .int .i64 a0.k, va1]) := o2
  refine c_nt ?_
  refine c_seq ?_
  refine c_region ?_
  refine st hf rfl rfl (by decide) (r_load_agg ty28 hf rfl o2.cl rfl) fun a hf => ?_
  refine st_skip hf rfl rfl (r_store_w (cs' := [.int .i64 a0.p, .int .i64 a0.n, .int .i64 a0.m, .int .i64 a0.k, va1]) hw o3 (by decide) ty28 rfl rfl (one_sch o1.ro.one) hf rfl rfl rfl) fun a w hf hΦ => ?_
  obtain ⟨hw, hA, o3⟩ := hΦ
  replace oA := oA.adv hA (by decide)
  replace o1 := o1.adv hA (by decide)
  replace o2 := o2.adv hA (by decide)
  replace o4 := o4.adv hA (by decide)
  refine c_nt ?_
  refine c_retc ?_
  obtain rfl := Option.some.inj hF
  refine c_ret hf (res_cell Try.results78 ty28 hf rfl o3.cl rfl) ?_
  exact ⟨_, rfl, _, m_wd hW hw oA, m_adv oA, _, rfl, m_ow oA o1⟩
/-! f23 -/
noncomputable def impl_PlusMove (a0 : Sch) (a1 : Int) (a2 : Int) : Option (Sch × Int) :=
  (impl_IsScheme a0).bind fun x1 => if (!x1) = true then (some (((⟨0, 0, 0, 0, ([] : List Prod)⟩ : Sch), 1))) else ((impl_isIndex a0 ([a1, a2])).bind fun x4 => if (!x4) = true then (some (((⟨0, 0, 0, 0, ([] : List Prod)⟩ : Sch), 2))) else (if (decide (a1 = a2)) = true then (some (((⟨0, 0, 0, 0, ([] : List Prod)⟩ : Sch), 5))) else (if (decide ((a0.ps.length : Int) = 30)) = true then (some (((⟨0, 0, 0, 0, ([] : List Prod)⟩ : Sch), 3))) else ((slices_Clone_76 a0.ps).bind fun x9 => if 0 ≤ a1 ∧ a1 < (x9.length : Int) then (if 0 ≤ a2 ∧ a2 < (x9.length : Int) then ((impl_sum a0.p ((gl zProd x9 a1).1) ((gl zProd x9 a2).1) (w64 (a0.p - 1))).bind fun x17 => (impl_sum a0.p ((gl zProd x9 a1).2.2) ((gl zProd x9 a2).2.2) 1).bind fun x20 => if 0 ≤ a2 ∧ a2 < ((x9.set a1.toNat (x17, (gl zProd x9 a1).2.1, (gl zProd x9 a1).2.2)).length : Int) then ((impl_sum a0.p ((gl zProd x9 a2).2.1) ((gl zProd x9 a1).2.1) (w64 (a0.p - 1))).bind fun x24 => if (((x9.set a1.toNat (x17, (gl zProd x9 a1).2.1, (gl zProd x9 a1).2.2)).set a2.toNat ((gl zProd x9 a2).1, (gl zProd x9 a1).2.1, x20)).length + ([((gl zProd x9 a2).1, x24, (gl zProd x9 a2).2.2)]).length) * 27 ≤ 140737488355328 then ((impl_kept (((x9.set a1.toNat (x17, (gl zProd x9 a1).2.1, (gl zProd x9 a1).2.2)).set a2.toNat ((gl zProd x9 a2).1, (gl zProd x9 a1).2.1, x20)) ++ [((gl zProd x9 a2).1, x24, (gl zProd x9 a2).2.2)])).bind fun x28 => (impl_with a0 x28).bind fun x31 => some ((x31, 0))) else none) else none) else none) else none))))
theorem impl_PlusMove_ok {w0 : World} {a0 : Sch} {a1 : Int} {a2 : Int} {va0 : Value} (h0 : Ro (kf cProd) w0 va0 a0.ps) {r : Sch × Int} (hF : impl_PlusMove a0 a1 a2 = some r) :
    Calls Try.prog 23 [.agg ([.int .i64 a0.p, .int .i64 a0.n, .int .i64 a0.m, .int .i64 a0.k, va0]).toArray, .int .i64 a1, .int .i64 a2].toArray w0 fun e w => ∃ v, e = .returned v ∧ Below w0.heap.size w0 w ∧ ∃ u0, .tuple #[.agg [.int .i64 r.1.p, .int .i64 r.1.n, .int .i64 r.1.m, .int .i64 r.1.k, u0].toArray, .int .i64 r.2] = v ∧ Fresh (kf cProd) 78 w0 w u0 r.1.ps := by
  refine calls_of (k := 99) Try.func23 rfl rfl (Nat.le_of_ble_eq_true rfl) fun a hf => ?_
  replace hf : Fr 99 a [(0, .agg ([.int .i64 a0.p, .int .i64 a0.n, .int .i64 a0.m, .int .i64 a0.k, va0]).toArray), (1, .int .i64 a1), (2, .int .i64 a2)] := hf
  refine c_start fun w ρ hw => ?_
  unfold impl_PlusMove at hF
  refine c_seq ?_
  refine c_region ?_
  refine st_ex hf rfl rfl (by decide) (r_box (cs := [.int .i64 a0.p, .int .i64 a0.n, .int .i64 a0.m, .int .i64 a0.k, va0]) 1 hw hf rfl rfl) fun a v w hf hΦ => ?_
  obtain ⟨g1, ρ, rfl, hw, hE, o1⟩ := hΦ
  have o3 : Ow (kf cProd) 78 ρ w w0.heap.size 3 (.slice none 0 0) [] := Ow.nil _ _ _ _ _ _
  refine st_ex hf rfl rfl (by decide) (r_alloc (cs := [.int .i64 0, .int .i64 0, .int .i64 0, .int .i64 0, (.slice none 0 0)]) 2 ze28 rfl hw) fun a v w hf hΦ => ?_
  obtain ⟨g2, ρ, rfl, hw, hE, o2⟩ := hΦ
  replace o1 := o1.ext hE
  replace o3 := o3.ext hE
  refine st hf rfl rfl (by decide) (r_assign hf rfl) fun a hf => ?_
  refine c_nt ?_
  refine c_seq ?_
  refine c_block ?_
  refine c_seq ?_
  refine c_region ?_
  refine st hf rfl rfl (by decide) (r_load_agg ty28 hf rfl o1.cl rfl) fun a hf => ?_
  obtain ⟨x1, hx2, hF⟩ := of_bind hF
  refine st_fn 4 hw hf rfl rfl (by decide) (r_fn en74 hf rfl) (impl_IsScheme_ok (a0 := a0) (h0.now hw) hx2) fun a v w ρ hf hw hE hN hΦ => ?_
  obtain rfl := hΦ
  replace o1 := o1.ext hE
  replace o3 := o3.ext hE
  replace o2 := o2.ext hE
  refine st hf rfl rfl (by decide) (r_not hf rfl) fun a hf => ?_
  refine st hf rfl rfl (by decide) (r_assign hf rfl) fun a hf => ?_
  refine c_nt ?_
  rcases of_ite hF with ⟨hb3, hF⟩ | ⟨hb3, hF⟩
  · refine c_ift hf rfl hb3 ?_
    refine c_seq ?_
    refine c_region ?_
    have o5 : Ow (kf cProd) 78 ρ w w0.heap.size 5 (.slice none 0 0) [] := Ow.nil _ _ _ _ _ _
    refine st hf rfl rfl (by decide) (r_build_struct (pl := [(0, 1), (1, 1), (2, 1), (3, 1), (4, 1)]) (vs := []) (res := ([.int .i64 0, .int .i64 0, .int .i64 0, .int .i64 0, (.slice none 0 0)]).toArray) Try.underlying28 (by kernel_rfl) ze28 hf rfl rfl rfl) fun a hf => ?_
    refine st_skip hf rfl rfl (r_store_w (cs' := [.int .i64 0, .int .i64 0, .int .i64 0, .int .i64 0, (.slice none 0 0)]) hw o2 (by decide) ty28 rfl rfl (one_sch o5.ro.one) hf rfl rfl rfl) fun a w hf hΦ => ?_
    obtain ⟨hw, hA, o2⟩ := hΦ
    replace o1 := o1.adv hA (by decide)
    replace o3 := o3.adv hA (by decide)
    replace o5 := o5.adv hA (by decide)
    refine st hf rfl rfl (by decide) (r_assign hf rfl) fun a hf => ?_
    refine c_nt ?_
    refine c_retc ?_
    obtain rfl := Option.some.inj hF
    refine r_block ?_
    refine r_then ?_
    refine c_ret hf (res_ct Try.results23 ty28 hf rfl o2.cl rfl rfl) ?_
    exact ⟨_, rfl, hw.below, ⟨_, rfl, o5.out⟩⟩
  · refine c_iff hf rfl hb3 ?_
    refine c_seq ?_
    refine c_region ?_
    refine st hf rfl rfl (by decide) (r_load_agg ty28 hf rfl o1.cl rfl) fun a hf => ?_
    refine st hf rfl rfl (by decide) (r_move hf rfl) fun a hf => ?_
    refine st hf rfl rfl (by decide) (r_move hf rfl) fun a hf => ?_
    refine st_ex hf rfl rfl (by decide) (r_lit (d := fI64) (xs := ([a1, a2] : List Int)) (vs := [.int .i64 a1, .int .i64 a2]) 6 Try.underlying61 el2 (Nat.le_of_ble_eq_true rfl) (Nat.le_of_ble_eq_true rfl) hw hf rfl rfl rfl) fun a v6 w hf hΦ => ?_
    obtain ⟨ρ, hw, hE, o6⟩ := hΦ
    replace o1 := o1.ext hE
    replace o3 := o3.ext hE
    replace o2 := o2.ext hE
    obtain ⟨x4, hx5, hF⟩ := of_bind hF
    refine st_fn 7 hw hf rfl rfl (by decide) (r_fn en75 hf rfl) (impl_isIndex_ok (a0 := a0) (h0.now hw) o6.ro hx5) fun a v w ρ hf hw hE hN hΦ => ?_
    obtain rfl := hΦ
    replace o1 := o1.ext hE
    replace o3 := o3.ext hE
    replace o2 := o2.ext hE
    replace o6 := o6.ext hE
    refine st hf rfl rfl (by decide) (r_not hf rfl) fun a hf => ?_
    refine st hf rfl rfl (by decide) (r_assign hf rfl) fun a hf => ?_
    refine c_nt ?_
    rcases of_ite hF with ⟨hb6, hF⟩ | ⟨hb6, hF⟩
    · refine c_ift hf rfl hb6 ?_
      refine c_seq ?_
      refine c_region ?_
      have o8 : Ow (kf cProd) 78 ρ w w0.heap.size 8 (.slice none 0 0) [] := Ow.nil _ _ _ _ _ _
      refine st hf rfl rfl (by decide) (r_build_struct (pl := [(0, 1), (1, 1), (2, 1), (3, 1), (4, 1)]) (vs := []) (res := ([.int .i64 0, .int .i64 0, .int .i64 0, .int .i64 0, (.slice none 0 0)]).toArray) Try.underlying28 (by kernel_rfl) ze28 hf rfl rfl rfl) fun a hf => ?_
      refine st_skip hf rfl rfl (r_store_w (cs' := [.int .i64 0, .int .i64 0, .int .i64 0, .int .i64 0, (.slice none 0 0)]) hw o2 (by decide) ty28 rfl rfl (one_sch o8.ro.one) hf rfl rfl rfl) fun a w hf hΦ => ?_
      obtain ⟨hw, hA, o2⟩ := hΦ
      replace o1 := o1.adv hA (by decide)
      replace o3 := o3.adv hA (by decide)
      replace o6 := o6.adv hA (by decide)
      replace o8 := o8.adv hA (by decide)
      refine st hf rfl rfl (by decide) (r_assign hf rfl) fun a hf => ?_
      refine c_nt ?_
      refine c_retc ?_
      obtain rfl := Option.some.inj hF
      refine r_block ?_
      refine r_then ?_
      refine c_ret hf (res_ct Try.results23 ty28 hf rfl o2.cl rfl rfl) ?_
      exact ⟨_, rfl, hw.below, ⟨_, rfl, o8.out⟩⟩
    · refine c_iff hf rfl hb6 ?_
      refine c_seq ?_
      refine c_region ?_
      refine st hf rfl rfl (by decide) (r_move hf rfl) fun a hf => ?_
      refine st hf rfl rfl (by decide) (r_move hf rfl) fun a hf => ?_
      refine st hf rfl rfl (by decide) (r_eql hf rfl rfl) fun a hf => ?_
      refine st hf rfl rfl (by decide) (r_assign hf rfl) fun a hf => ?_
      refine c_nt ?_
      rcases of_ite hF with ⟨hb7, hF⟩ | ⟨hb7, hF⟩
      · refine c_ift hf rfl hb7 ?_
        refine c_seq ?_
        refine c_region ?_
        have o9 : Ow (kf cProd) 78 ρ w w0.heap.size 9 (.slice none 0 0) [] := Ow.nil _ _ _ _ _ _
        refine st hf rfl rfl (by decide) (r_build_struct (pl := [(0, 1), (1, 1), (2, 1), (3, 1), (4, 1)]) (vs := []) (res := ([.int .i64 0, .int .i64 0, .int .i64 0, .int .i64 0, (.slice none 0 0)]).toArray) Try.underlying28 (by kernel_rfl) ze28 hf rfl rfl rfl) fun a hf => ?_
        refine st_skip hf rfl rfl (r_store_w (cs' := [.int .i64 0, .int .i64 0, .int .i64 0, .int .i64 0, (.slice none 0 0)]) hw o2 (by decide) ty28 rfl rfl (one_sch o9.ro.one) hf rfl rfl rfl) fun a w hf hΦ => ?_
        obtain ⟨hw, hA, o2⟩ := hΦ
        replace o1 := o1.adv hA (by decide)
        replace o3 := o3.adv hA (by decide)
        replace o6 := o6.adv hA (by decide)
        replace o9 := o9.adv hA (by decide)
        refine st hf rfl rfl (by decide) (r_assign hf rfl) fun a hf => ?_
        refine c_nt ?_
        refine c_retc ?_
        obtain rfl := Option.some.inj hF
        refine r_block ?_
        refine r_then ?_
        refine c_ret hf (res_ct Try.results23 ty28 hf rfl o2.cl rfl rfl) ?_
        exact ⟨_, rfl, hw.below, ⟨_, rfl, o9.out⟩⟩
      · refine c_iff hf rfl hb7 ?_
        refine c_seq ?_
        refine c_region ?_
        refine st hf rfl rfl (by decide) (r_fa fa28_4 hf rfl) fun a hf => ?_
        refine st hf rfl rfl (by decide) (r_load_cell ty26 hf rfl (o1.cl.at_ 4 _ rfl)) fun a hf => ?_
        refine st hf rfl rfl (by decide) (r_len Try.underlying26 (h0.now hw) hf rfl) fun a hf => ?_
        refine st hf rfl rfl (by decide) (r_eql hf rfl rfl) fun a hf => ?_
        refine st hf rfl rfl (by decide) (r_assign hf rfl) fun a hf => ?_
        refine c_nt ?_
        rcases of_ite hF with ⟨hb8, hF⟩ | ⟨hb8, hF⟩
        · refine c_ift hf rfl hb8 ?_
          refine c_seq ?_
          refine c_region ?_
          have o10 : Ow (kf cProd) 78 ρ w w0.heap.size 10 (.slice none 0 0) [] := Ow.nil _ _ _ _ _ _
          refine st hf rfl rfl (by decide) (r_build_struct (pl := [(0, 1), (1, 1), (2, 1), (3, 1), (4, 1)]) (vs := []) (res := ([.int .i64 0, .int .i64 0, .int .i64 0, .int .i64 0, (.slice none 0 0)]).toArray) Try.underlying28 (by kernel_rfl) ze28 hf rfl rfl rfl) fun a hf => ?_
          refine st_skip hf rfl rfl (r_store_w (cs' := [.int .i64 0, .int .i64 0, .int .i64 0, .int .i64 0, (.slice none 0 0)]) hw o2 (by decide) ty28 rfl rfl (one_sch o10.ro.one) hf rfl rfl rfl) fun a w hf hΦ => ?_
          obtain ⟨hw, hA, o2⟩ := hΦ
          replace o1 := o1.adv hA (by decide)
          replace o3 := o3.adv hA (by decide)
          replace o6 := o6.adv hA (by decide)
          replace o10 := o10.adv hA (by decide)
          refine st hf rfl rfl (by decide) (r_assign hf rfl) fun a hf => ?_
          refine c_nt ?_
          refine c_retc ?_
          obtain rfl := Option.some.inj hF
          refine r_block ?_
          refine r_then ?_
          refine c_ret hf (res_ct Try.results23 ty28 hf rfl o2.cl rfl rfl) ?_
          exact ⟨_, rfl, hw.below, ⟨_, rfl, o10.out⟩⟩
        · refine c_iff hf rfl hb8 ?_
          refine c_skip ?_
          refine n_block ?_
          refine n_then ?_
          refine c_seq ?_
          obtain ⟨x9, hx10, hF⟩ := of_bind hF
          replace hf : Fr 99 a [(1, .int .i64 a1), (2, .int .i64 a2), (3, .pointer (some ((⟨g1, 0, none⟩ : Addr).add 0))), (6, .pointer (some ((⟨g2, 0, none⟩ : Addr).add 0)))] := hf.sub ⟨rfl, rfl, rfl, rfl, trivial⟩
          refine c_drawL (h := 5) mixed (by kernel_rfl) (by kernel_rfl) (fun ρ w => Va ρ w 1 g1 28 ([.int .i64 a0.p, .int .i64 a0.n, .int .i64 a0.m, .int .i64 a0.k, va0]) ∧ Va ρ w 2 g2 28 ([.int .i64 0, .int .i64 0, .int .i64 0, .int .i64 0, (.slice none 0 0)]) ∧ Ow (kf cProd) 78 ρ w w0.heap.size 3 (.slice none 0 0) ([] : List Prod)) ?_ [fun ρ w v => .pointer (some ((⟨g1, 0, none⟩ : Addr).add (0 + 0))) = v, fun ρ w v => .int .i64 a0.p = v, fun ρ w v => .pointer (some ((⟨g1, 0, none⟩ : Addr).add (0 + 4))) = v, fun ρ w v => va0 = v, fun ρ w v => ∃ u11, u11 = v ∧ Ow (kf cProd) 78 ρ w w0.heap.size 11 u11 x9] ?_ hw ⟨o1, o2, o3⟩ hf ?_ ?_
          · intro ρ w ρ' w' hE hG
            obtain ⟨o1, o2, o3⟩ := hG
            exact ⟨o1.ext hE, o2.ext hE, o3.ext hE⟩
          · exact LastsL.cons (fun _ _ _ _ _ _ h => h) <| LastsL.cons (fun _ _ _ _ _ _ h => h) <| LastsL.cons (fun _ _ _ _ _ _ h => h) <| LastsL.cons (fun _ _ _ _ _ _ h => h) <| LastsL.cons (fun _ _ _ _ _ hE h => by obtain ⟨u11, h, o11⟩ := h; exact ⟨_, h, o11.ext hE⟩) <| LastsL.nil
          · refine StepsB.cons ?_ <| StepsB.cons ?_ <| StepsB.cons ?_ <| StepsB.cons ?_ <| StepsB.cons ?_ <| StepsB.nil
            · intro ρ w a hw hG hf hd K hK
              obtain ⟨o1, o2, o3⟩ := hG
              exact d_val (R := fun ρ w v => .pointer (some ((⟨g1, 0, none⟩ : Addr).add (0 + 0))) = v) hw (wn rfl) (r_fa fa28_0 hf rfl) rfl rfl hK
            · intro ρ w a hw hG hf hd K hK
              obtain ⟨o1, o2, o3⟩ := hG
              obtain ⟨_, ht, rfl⟩ := hd 0 (by kernel_rfl)
              replace hf := hf.more ht
              exact d_val (R := fun ρ w v => .int .i64 a0.p = v) hw (wn rfl) (r_load_cell ty2 hf rfl (o1.cl.at_ 0 _ rfl)) rfl rfl hK
            · intro ρ w a hw hG hf hd K hK
              obtain ⟨o1, o2, o3⟩ := hG
              exact d_val (R := fun ρ w v => .pointer (some ((⟨g1, 0, none⟩ : Addr).add (0 + 4))) = v) hw (wn rfl) (r_fa fa28_4 hf rfl) rfl rfl hK
            · intro ρ w a hw hG hf hd K hK
              obtain ⟨o1, o2, o3⟩ := hG
              obtain ⟨_, ht, rfl⟩ := hd 2 (by kernel_rfl)
              replace hf := hf.more ht
              exact d_val (R := fun ρ w v => va0 = v) hw (wn rfl) (r_load_cell ty26 hf rfl (o1.cl.at_ 4 _ rfl)) rfl rfl hK
            · intro ρ w a hw hG hf hd K hK
              obtain ⟨o1, o2, o3⟩ := hG
              obtain ⟨_, ht, rfl⟩ := hd 3 (by kernel_rfl)
              replace hf := hf.more ht
              refine d_call (R := fun ρ w v => ∃ u11, u11 = v ∧ Ow (kf cProd) 78 ρ w w0.heap.size 11 u11 x9) hw (wn rfl) (r_fn en76 hf rfl) (slices_Clone_76_ok (h0.now hw) hx10) rfl (fun v w' hΦ => ?_) hK
              obtain ⟨hb, hΦ⟩ := hΦ
              obtain ⟨u11, rfl, hr12⟩ := hΦ
              have hE := Ext.new (ρ := ρ) 11 hb
              have o11 := Fresh.own (ρ := ρ) (B := w0.heap.size) hr12 hw.below.size 11
              exact ⟨_, hw.new 11 hb, hE, _, rfl, o11⟩
          · intro ρ w a hw hG hf hd
            obtain ⟨o1, o2, o3⟩ := hG
            replace hf : Fr 99 a [(1, .int .i64 a1), (2, .int .i64 a2), (3, .pointer (some ((⟨g1, 0, none⟩ : Addr).add 0))), (6, .pointer (some ((⟨g2, 0, none⟩ : Addr).add 0)))] := hf
            obtain ⟨_, ht, rfl⟩ := hd 1 (by decide)
            replace hf := hf.more ht
            obtain ⟨_, ht, ⟨u11, rfl, o11⟩⟩ := hd 4 (by decide)
            replace hf := hf.more ht
            refine st hf rfl rfl (by decide) (r_assign hf rfl) fun a hf => ?_
            refine st hf rfl rfl (by decide) (r_assign hf rfl) fun a hf => ?_
            refine c_nt ?_
            refine c_seq ?_
            obtain ⟨hc13, hF⟩ := of_guard hF
            obtain ⟨hc15, hF⟩ := of_guard hF
            replace hf : Fr 99 a [(1, .int .i64 a1), (2, .int .i64 a2), (3, .pointer (some ((⟨g1, 0, none⟩ : Addr).add 0))), (6, .pointer (some ((⟨g2, 0, none⟩ : Addr).add 0))), (8, .int .i64 a0.p), (9, u11)] := hf.sub ⟨rfl, rfl, rfl, rfl, rfl, rfl, trivial⟩
            refine c_stage 11 [10] mixed (by kernel_rfl) (by kernel_rfl) (fun c ρ w => Va ρ w 1 g1 28 ([.int .i64 a0.p, .int .i64 a0.n, .int .i64 a0.m, .int .i64 a0.k, va0]) ∧ Va ρ w 2 g2 28 ([.int .i64 0, .int .i64 0, .int .i64 0, .int .i64 0, (.slice none 0 0)]) ∧ Ow (kf cProd) 78 ρ w w0.heap.size 3 (.slice none 0 0) ([] : List Prod) ∧ Ow (kf cProd) 78 ρ w w0.heap.size 11 u11 x9) ?_ [fun c ρ w v => u11 = v, fun c ρ w v => .int .i64 a1 = v, fun c ρ w v => ∃ ad14, .pointer (some (ad14.add (a1.toNat * 27))) = v ∧ Ce ρ w 11 u11 x9.length ad14 (a1.toNat * 27) (cProd.enc (gl zProd x9 a1)), fun c ρ w v => .agg (cProd.enc (gl zProd x9 a1)).toArray = v, fun c ρ w v => u11 = v, fun c ρ w v => .int .i64 a2 = v, fun c ρ w v => ∃ ad16, .pointer (some (ad16.add (a2.toNat * 27))) = v ∧ Ce ρ w 11 u11 x9.length ad16 (a2.toNat * 27) (cProd.enc (gl zProd x9 a2)), fun c ρ w v => .agg (cProd.enc (gl zProd x9 a2)).toArray = v, fun c ρ w v => ∃ g14, .pointer (some ((⟨g14, 0, none⟩ : Addr).add 0)) = v ∧ (c ≤ 0 → Va ρ w 14 g14 78 (cProd.enc zProd)) ∧ (0 < c → Va ρ w 14 g14 78 (cProd.enc (gl zProd x9 a1))), fun c ρ w v => ∃ g15, .pointer (some ((⟨g15, 0, none⟩ : Addr).add 0)) = v ∧ Va ρ w 15 g15 78 (cProd.enc zProd), fun _ _ _ _ => True] ?_ hw ⟨o1, o2, o3, o11⟩ hf ?_ ?_
            · intro c ρ w ρ' w' hE hG
              obtain ⟨o1, o2, o3, o11⟩ := hG
              exact ⟨o1.ext hE, o2.ext hE, o3.ext hE, o11.ext hE⟩
            · exact LastsS.cons (fun _ _ _ _ _ _ _ h => h) <| LastsS.cons (fun _ _ _ _ _ _ _ h => h) <| LastsS.cons (fun c _ _ _ _ _ hE h => by obtain ⟨ad14, h, hl14⟩ := h; exact ⟨_, h, hl14.ext hE⟩) <| LastsS.cons (fun _ _ _ _ _ _ _ h => h) <| LastsS.cons (fun _ _ _ _ _ _ _ h => h) <| LastsS.cons (fun _ _ _ _ _ _ _ h => h) <| LastsS.cons (fun c _ _ _ _ _ hE h => by obtain ⟨ad16, h, hl16⟩ := h; exact ⟨_, h, hl16.ext hE⟩) <| LastsS.cons (fun _ _ _ _ _ _ _ h => h) <| LastsS.cons (fun c _ _ _ _ _ hE h => by obtain ⟨g14, h, hx, hy⟩ := h; exact ⟨_, h, fun h => (hx h).ext hE, (fun h => by obtain o14 := hy h; exact o14.ext hE)⟩) <| LastsS.cons (fun c _ _ _ _ _ hE h => by obtain ⟨g15, h, o15⟩ := h; exact ⟨_, h, o15.ext hE⟩) <| LastsS.cons (fun _ _ _ _ _ _ _ h => h) <| LastsS.nil
            · refine StepsS.float rfl ?_ <| StepsS.float rfl ?_ <| StepsS.float rfl ?_ <| StepsS.float rfl ?_ <| StepsS.float rfl ?_ <| StepsS.float rfl ?_ <| StepsS.float rfl ?_ <| StepsS.float rfl ?_ <| StepsS.float rfl ?_ <| StepsS.float rfl ?_ <| StepsS.main 0 rfl rfl ?_ <| StepsS.nil
              · intro c ρ w a hs hw hG hf hd K hK
                obtain ⟨o1, o2, o3, o11⟩ := hG
                exact d_val (R := fun ρ w v => u11 = v) hw (wn rfl) (r_move hf rfl) rfl rfl hK
              · intro c ρ w a hs hw hG hf hd K hK
                obtain ⟨o1, o2, o3, o11⟩ := hG
                exact d_val (R := fun ρ w v => .int .i64 a1 = v) hw (wn rfl) (r_move hf rfl) rfl rfl hK
              · intro c ρ w a hs hw hG hf hd K hK
                obtain ⟨o1, o2, o3, o11⟩ := hG
                obtain ⟨_, ht0, rfl⟩ := hd 0 (by kernel_rfl) (by kernel_rfl)
                replace hf := hf.more ht0
                obtain ⟨_, ht1, rfl⟩ := hd 1 (by kernel_rfl) (by kernel_rfl)
                replace hf := hf.more ht1
                obtain ⟨ad14, hl14⟩ := Ow.ce (d := cProd) o11 zProd hc13.1 hc13.2
                exact d_val (R := fun ρ w v => ∃ ad14, .pointer (some (ad14.add (a1.toNat * 27))) = v ∧ Ce ρ w 11 u11 x9.length ad14 (a1.toNat * 27) (cProd.enc (gl zProd x9 a1))) hw (wn rfl) (r_idx Try.underlying26 sz78 hf rfl hl14.at_ rfl hc13.1 hc13.2) rfl ⟨_, rfl, hl14⟩ hK
              · intro c ρ w a hs hw hG hf hd K hK
                obtain ⟨o1, o2, o3, o11⟩ := hG
                obtain ⟨_, ht2, ⟨ad14, rfl, hl14⟩⟩ := hd 2 (by kernel_rfl) (by kernel_rfl)
                replace hf := hf.more ht2
                exact d_val (R := fun ρ w v => .agg (cProd.enc (gl zProd x9 a1)).toArray = v) hw (wn rfl) (r_load_agg ty78 hf rfl hl14.co.cl (cProd.len _)) rfl rfl hK
              · intro c ρ w a hs hw hG hf hd K hK
                obtain ⟨o1, o2, o3, o11⟩ := hG
                exact d_val (R := fun ρ w v => u11 = v) hw (wn rfl) (r_move hf rfl) rfl rfl hK
              · intro c ρ w a hs hw hG hf hd K hK
                obtain ⟨o1, o2, o3, o11⟩ := hG
                exact d_val (R := fun ρ w v => .int .i64 a2 = v) hw (wn rfl) (r_move hf rfl) rfl rfl hK
              · intro c ρ w a hs hw hG hf hd K hK
                obtain ⟨o1, o2, o3, o11⟩ := hG
                obtain ⟨_, ht4, rfl⟩ := hd 4 (by kernel_rfl) (by kernel_rfl)
                replace hf := hf.more ht4
                obtain ⟨_, ht5, rfl⟩ := hd 5 (by kernel_rfl) (by kernel_rfl)
                replace hf := hf.more ht5
                obtain ⟨ad16, hl16⟩ := Ow.ce (d := cProd) o11 zProd hc15.1 hc15.2
                exact d_val (R := fun ρ w v => ∃ ad16, .pointer (some (ad16.add (a2.toNat * 27))) = v ∧ Ce ρ w 11 u11 x9.length ad16 (a2.toNat * 27) (cProd.enc (gl zProd x9 a2))) hw (wn rfl) (r_idx Try.underlying26 sz78 hf rfl hl16.at_ rfl hc15.1 hc15.2) rfl ⟨_, rfl, hl16⟩ hK
              · intro c ρ w a hs hw hG hf hd K hK
                obtain ⟨o1, o2, o3, o11⟩ := hG
                obtain ⟨_, ht6, ⟨ad16, rfl, hl16⟩⟩ := hd 6 (by kernel_rfl) (by kernel_rfl)
                replace hf := hf.more ht6
                exact d_val (R := fun ρ w v => .agg (cProd.enc (gl zProd x9 a2)).toArray = v) hw (wn rfl) (r_load_agg ty78 hf rfl hl16.co.cl (cProd.len _)) rfl rfl hK
              · intro c ρ w a hs hw hG hf hd K hK
                obtain ⟨o1, o2, o3, o11⟩ := hG
                refine d_ex (R := fun ρ w v => ∃ g14, .pointer (some ((⟨g14, 0, none⟩ : Addr).add 0)) = v ∧ (c ≤ 0 → Va ρ w 14 g14 78 (cProd.enc zProd)) ∧ (0 < c → Va ρ w 14 g14 78 (cProd.enc (gl zProd x9 a1)))) hw (wn rfl) (r_alloc (cs := cProd.enc zProd) 14 ze78 rfl hw) rfl (fun v w' hΦ => ?_) hK
                obtain ⟨g14, ρ, rfl, hw, hE, o14⟩ := hΦ
                exact ⟨_, hw, hE, _, rfl, fun _ => o14, fun hc => absurd (hs 0 (by decide) (by kernel_rfl)) (Nat.not_le_of_lt hc)⟩
              · intro c ρ w a hs hw hG hf hd K hK
                obtain ⟨o1, o2, o3, o11⟩ := hG
                refine d_ex (R := fun ρ w v => ∃ g15, .pointer (some ((⟨g15, 0, none⟩ : Addr).add 0)) = v ∧ Va ρ w 15 g15 78 (cProd.enc zProd)) hw (wn rfl) (r_alloc (cs := cProd.enc zProd) 15 ze78 rfl hw) rfl (fun v w' hΦ => ?_) hK
                obtain ⟨g15, ρ, rfl, hw, hE, o15⟩ := hΦ
                exact ⟨_, hw, hE, _, rfl, o15⟩
              · intro ρ w a S hw hG hf hS hdep hSi K hK
                obtain ⟨o1, o2, o3, o11⟩ := hG
                have hfL := hf
                obtain ⟨_, ht3, rfl⟩ := hS 3 (by decide) (hdep 3 (by kernel_rfl)) (by kernel_rfl)
                replace hf := hf.more ht3
                obtain ⟨_, ht8, g14, rfl, hx8, hy8⟩ := hS 8 (by decide) (hdep 8 (by kernel_rfl)) (by kernel_rfl)
                have o14 := hx8 (by decide)
                replace hf := hf.more ht8
                refine m_skip (Γ := fun c ρ w => Va ρ w 1 g1 28 ([.int .i64 a0.p, .int .i64 a0.n, .int .i64 a0.m, .int .i64 a0.k, va0]) ∧ Va ρ w 2 g2 28 ([.int .i64 0, .int .i64 0, .int .i64 0, .int .i64 0, (.slice none 0 0)]) ∧ Ow (kf cProd) 78 ρ w w0.heap.size 3 (.slice none 0 0) ([] : List Prod) ∧ Ow (kf cProd) 78 ρ w w0.heap.size 11 u11 x9) (Rl := [fun c ρ w v => u11 = v, fun c ρ w v => .int .i64 a1 = v, fun c ρ w v => ∃ ad14, .pointer (some (ad14.add (a1.toNat * 27))) = v ∧ Ce ρ w 11 u11 x9.length ad14 (a1.toNat * 27) (cProd.enc (gl zProd x9 a1)), fun c ρ w v => .agg (cProd.enc (gl zProd x9 a1)).toArray = v, fun c ρ w v => u11 = v, fun c ρ w v => .int .i64 a2 = v, fun c ρ w v => ∃ ad16, .pointer (some (ad16.add (a2.toNat * 27))) = v ∧ Ce ρ w 11 u11 x9.length ad16 (a2.toNat * 27) (cProd.enc (gl zProd x9 a2)), fun c ρ w v => .agg (cProd.enc (gl zProd x9 a2)).toArray = v, fun c ρ w v => ∃ g14, .pointer (some ((⟨g14, 0, none⟩ : Addr).add 0)) = v ∧ (c ≤ 0 → Va ρ w 14 g14 78 (cProd.enc zProd)) ∧ (0 < c → Va ρ w 14 g14 78 (cProd.enc (gl zProd x9 a1))), fun c ρ w v => ∃ g15, .pointer (some ((⟨g15, 0, none⟩ : Addr).add 0)) = v ∧ Va ρ w 15 g15 78 (cProd.enc zProd), fun _ _ _ _ => True]) hfL hS (by kernel_rfl) rfl (wn rfl) (r_store_w (cs' := cProd.enc (gl zProd x9 a1)) hw o14 (by decide) ty78 (cProd.len _) (cProd.len _) (cProd.one _) hf rfl rfl rfl) (fun w' hΦ => ?_) hK
                obtain ⟨hw, hA, o14⟩ := hΦ
                replace o1 := o1.adv hA (by decide)
                replace o2 := o2.adv hA (by decide)
                replace o3 := o3.adv hA (by decide)
                replace o11 := o11.adv hA (by decide)
                refine ⟨_, hw, ⟨o1, o2, o3, o11⟩, ?_⟩
                · exact PassL.cons (fun h => h) <| PassL.cons (fun h => h) <| PassL.cons (fun h => by obtain ⟨_, ht, ad14, h, hl14⟩ := h; exact ⟨_, ht, _, h, hl14.adv hA (by decide)⟩) <| PassL.cons (fun h => h) <| PassL.cons (fun h => h) <| PassL.cons (fun h => h) <| PassL.cons (fun h => by obtain ⟨_, ht, ad16, h, hl16⟩ := h; exact ⟨_, ht, _, h, hl16.adv hA (by decide)⟩) <| PassL.cons (fun h => h) <| PassL.cons (fun _ => ⟨_, ht8, _, rfl, fun h => absurd h (by decide), fun _ => o14⟩) <| PassL.cons (fun h => by obtain ⟨_, ht, g15, h, o15⟩ := h; exact ⟨_, ht, _, h, o15.adv hA (by decide)⟩) <| PassL.here <| PassL.nil
            · intro ρ w a hw hG hf hd
              obtain ⟨o1, o2, o3, o11⟩ := hG
              replace hf : Fr 99 a [(1, .int .i64 a1), (2, .int .i64 a2), (3, .pointer (some ((⟨g1, 0, none⟩ : Addr).add 0))), (6, .pointer (some ((⟨g2, 0, none⟩ : Addr).add 0))), (8, .int .i64 a0.p), (9, u11)] := hf
              obtain ⟨_, ht, rfl⟩ := hd 7 (by decide) (by kernel_rfl)
              replace hf := hf.more ht
              obtain ⟨_, ht, g14, rfl, hx, hy⟩ := hd 8 (by decide) (by kernel_rfl)
              obtain o14 := hy (by decide)
              replace hf := hf.more ht
              obtain ⟨_, ht, ⟨g15, rfl, o15⟩⟩ := hd 9 (by decide) (by kernel_rfl)
              replace hf := hf.more ht
              refine st_skip hf rfl rfl (r_store_w (cs' := cProd.enc (gl zProd x9 a2)) hw o15 (by decide) ty78 (cProd.len _) (cProd.len _) (cProd.one _) hf rfl rfl rfl) fun a w hf hΦ => ?_
              obtain ⟨hw, hA, o15⟩ := hΦ
              replace o1 := o1.adv hA (by decide)
              replace o2 := o2.adv hA (by decide)
              replace o3 := o3.adv hA (by decide)
              replace o11 := o11.adv hA (by decide)
              replace o14 := o14.adv hA (by decide)
              refine c_nt ?_
              refine c_seq ?_
              obtain ⟨x17, hx18, hF⟩ := of_bind hF
              replace hf : Fr 99 a [(1, .int .i64 a1), (2, .int .i64 a2), (3, .pointer (some ((⟨g1, 0, none⟩ : Addr).add 0))), (6, .pointer (some ((⟨g2, 0, none⟩ : Addr).add 0))), (8, .int .i64 a0.p), (9, u11), (10, .pointer (some ((⟨g14, 0, none⟩ : Addr).add 0))), (11, .pointer (some ((⟨g15, 0, none⟩ : Addr).add 0)))] := hf.sub ⟨rfl, rfl, rfl, rfl, rfl, rfl, rfl, rfl, trivial⟩
              refine c_drawL (h := 15) mixed (by kernel_rfl) (by kernel_rfl) (fun ρ w => Va ρ w 1 g1 28 ([.int .i64 a0.p, .int .i64 a0.n, .int .i64 a0.m, .int .i64 a0.k, va0]) ∧ Va ρ w 2 g2 28 ([.int .i64 0, .int .i64 0, .int .i64 0, .int .i64 0, (.slice none 0 0)]) ∧ Ow (kf cProd) 78 ρ w w0.heap.size 3 (.slice none 0 0) ([] : List Prod) ∧ Ow (kf cProd) 78 ρ w w0.heap.size 11 u11 x9 ∧ Va ρ w 14 g14 78 (cProd.enc (gl zProd x9 a1)) ∧ Va ρ w 15 g15 78 (cProd.enc (gl zProd x9 a2))) ?_ [fun ρ w v => u11 = v, fun ρ w v => .int .i64 a1 = v, fun ρ w v => .int .i64 a0.p = v, fun ρ w v => .pointer (some ((⟨g14, 0, none⟩ : Addr).add (0 + 0))) = v, fun ρ w v => .agg (cForm.enc ((gl zProd x9 a1).1)).toArray = v, fun ρ w v => .pointer (some ((⟨g15, 0, none⟩ : Addr).add (0 + 0))) = v, fun ρ w v => .agg (cForm.enc ((gl zProd x9 a2).1)).toArray = v, fun ρ w v => .int .i64 a0.p = v, fun ρ w v => .int .i64 (w64 (a0.p - 1)) = v, fun ρ w v => .agg (cForm.enc x17).toArray = v, fun ρ w v => .pointer (some ((⟨g14, 0, none⟩ : Addr).add (0 + 9))) = v, fun ρ w v => .agg (cForm.enc ((gl zProd x9 a1).2.1)).toArray = v, fun ρ w v => .pointer (some ((⟨g14, 0, none⟩ : Addr).add (0 + 18))) = v, fun ρ w v => .agg (cForm.enc ((gl zProd x9 a1).2.2)).toArray = v, fun ρ w v => .agg (cProd.enc (x17, (gl zProd x9 a1).2.1, (gl zProd x9 a1).2.2)).toArray = v] ?_ hw ⟨o1, o2, o3, o11, o14, o15⟩ hf ?_ ?_
              · intro ρ w ρ' w' hE hG
                obtain ⟨o1, o2, o3, o11, o14, o15⟩ := hG
                exact ⟨o1.ext hE, o2.ext hE, o3.ext hE, o11.ext hE, o14.ext hE, o15.ext hE⟩
              · exact LastsL.cons (fun _ _ _ _ _ _ h => h) <| LastsL.cons (fun _ _ _ _ _ _ h => h) <| LastsL.cons (fun _ _ _ _ _ _ h => h) <| LastsL.cons (fun _ _ _ _ _ _ h => h) <| LastsL.cons (fun _ _ _ _ _ _ h => h) <| LastsL.cons (fun _ _ _ _ _ _ h => h) <| LastsL.cons (fun _ _ _ _ _ _ h => h) <| LastsL.cons (fun _ _ _ _ _ _ h => h) <| LastsL.cons (fun _ _ _ _ _ _ h => h) <| LastsL.cons (fun _ _ _ _ _ _ h => h) <| LastsL.cons (fun _ _ _ _ _ _ h => h) <| LastsL.cons (fun _ _ _ _ _ _ h => h) <| LastsL.cons (fun _ _ _ _ _ _ h => h) <| LastsL.cons (fun _ _ _ _ _ _ h => h) <| LastsL.cons (fun _ _ _ _ _ _ h => h) <| LastsL.nil
              · refine StepsB.cons ?_ <| StepsB.cons ?_ <| StepsB.cons ?_ <| StepsB.cons ?_ <| StepsB.cons ?_ <| StepsB.cons ?_ <| StepsB.cons ?_ <| StepsB.cons ?_ <| StepsB.cons ?_ <| StepsB.cons ?_ <| StepsB.cons ?_ <| StepsB.cons ?_ <| StepsB.cons ?_ <| StepsB.cons ?_ <| StepsB.cons ?_ <| StepsB.nil
                · intro ρ w a hw hG hf hd K hK
                  obtain ⟨o1, o2, o3, o11, o14, o15⟩ := hG
                  exact d_val (R := fun ρ w v => u11 = v) hw (wn rfl) (r_move hf rfl) rfl rfl hK
                · intro ρ w a hw hG hf hd K hK
                  obtain ⟨o1, o2, o3, o11, o14, o15⟩ := hG
                  exact d_val (R := fun ρ w v => .int .i64 a1 = v) hw (wn rfl) (r_move hf rfl) rfl rfl hK
                · intro ρ w a hw hG hf hd K hK
                  obtain ⟨o1, o2, o3, o11, o14, o15⟩ := hG
                  exact d_val (R := fun ρ w v => .int .i64 a0.p = v) hw (wn rfl) (r_move hf rfl) rfl rfl hK
                · intro ρ w a hw hG hf hd K hK
                  obtain ⟨o1, o2, o3, o11, o14, o15⟩ := hG
                  exact d_val (R := fun ρ w v => .pointer (some ((⟨g14, 0, none⟩ : Addr).add (0 + 0))) = v) hw (wn rfl) (r_fa fa78_0 hf rfl) rfl rfl hK
                · intro ρ w a hw hG hf hd K hK
                  obtain ⟨o1, o2, o3, o11, o14, o15⟩ := hG
                  obtain ⟨_, ht, rfl⟩ := hd 3 (by kernel_rfl)
                  replace hf := hf.more ht
                  exact d_val (R := fun ρ w v => .agg (cForm.enc ((gl zProd x9 a1).1)).toArray = v) hw (wn rfl) (r_load_agg ty39 hf rfl (o14.cl.lens lProd_0) (cForm.len _)) rfl rfl hK
                · intro ρ w a hw hG hf hd K hK
                  obtain ⟨o1, o2, o3, o11, o14, o15⟩ := hG
                  exact d_val (R := fun ρ w v => .pointer (some ((⟨g15, 0, none⟩ : Addr).add (0 + 0))) = v) hw (wn rfl) (r_fa fa78_0 hf rfl) rfl rfl hK
                · intro ρ w a hw hG hf hd K hK
                  obtain ⟨o1, o2, o3, o11, o14, o15⟩ := hG
                  obtain ⟨_, ht, rfl⟩ := hd 5 (by kernel_rfl)
                  replace hf := hf.more ht
                  exact d_val (R := fun ρ w v => .agg (cForm.enc ((gl zProd x9 a2).1)).toArray = v) hw (wn rfl) (r_load_agg ty39 hf rfl (o15.cl.lens lProd_0) (cForm.len _)) rfl rfl hK
                · intro ρ w a hw hG hf hd K hK
                  obtain ⟨o1, o2, o3, o11, o14, o15⟩ := hG
                  exact d_val (R := fun ρ w v => .int .i64 a0.p = v) hw (wn rfl) (r_move hf rfl) rfl rfl hK
                · intro ρ w a hw hG hf hd K hK
                  obtain ⟨o1, o2, o3, o11, o14, o15⟩ := hG
                  obtain ⟨_, ht, rfl⟩ := hd 7 (by kernel_rfl)
                  replace hf := hf.more ht
                  exact d_val (R := fun ρ w v => .int .i64 (w64 (a0.p - 1)) = v) hw (wn rfl) (r_sub hf rfl rfl) rfl rfl hK
                · intro ρ w a hw hG hf hd K hK
                  obtain ⟨o1, o2, o3, o11, o14, o15⟩ := hG
                  obtain ⟨_, ht, rfl⟩ := hd 2 (by kernel_rfl)
                  replace hf := hf.more ht
                  obtain ⟨_, ht, rfl⟩ := hd 4 (by kernel_rfl)
                  replace hf := hf.more ht
                  obtain ⟨_, ht, rfl⟩ := hd 6 (by kernel_rfl)
                  replace hf := hf.more ht
                  obtain ⟨_, ht, rfl⟩ := hd 8 (by kernel_rfl)
                  replace hf := hf.more ht
                  refine d_call (R := fun ρ w v => .agg (cForm.enc x17).toArray = v) hw (wn rfl) (r_fn en77 hf rfl) (impl_sum_ok  hx18) rfl (fun v w' hΦ => ?_) hK
                  obtain ⟨hb, hΦ⟩ := hΦ
                  obtain rfl := hΦ
                  have hE := Ext.new (ρ := ρ) 16 hb
                  exact ⟨_, hw.new 16 hb, hE, rfl⟩
                · intro ρ w a hw hG hf hd K hK
                  obtain ⟨o1, o2, o3, o11, o14, o15⟩ := hG
                  exact d_val (R := fun ρ w v => .pointer (some ((⟨g14, 0, none⟩ : Addr).add (0 + 9))) = v) hw (wn rfl) (r_fa fa78_1 hf rfl) rfl rfl hK
                · intro ρ w a hw hG hf hd K hK
                  obtain ⟨o1, o2, o3, o11, o14, o15⟩ := hG
                  obtain ⟨_, ht, rfl⟩ := hd 10 (by kernel_rfl)
                  replace hf := hf.more ht
                  exact d_val (R := fun ρ w v => .agg (cForm.enc ((gl zProd x9 a1).2.1)).toArray = v) hw (wn rfl) (r_load_agg ty39 hf rfl (o14.cl.lens lProd_1) (cForm.len _)) rfl rfl hK
                · intro ρ w a hw hG hf hd K hK
                  obtain ⟨o1, o2, o3, o11, o14, o15⟩ := hG
                  exact d_val (R := fun ρ w v => .pointer (some ((⟨g14, 0, none⟩ : Addr).add (0 + 18))) = v) hw (wn rfl) (r_fa fa78_2 hf rfl) rfl rfl hK
                · intro ρ w a hw hG hf hd K hK
                  obtain ⟨o1, o2, o3, o11, o14, o15⟩ := hG
                  obtain ⟨_, ht, rfl⟩ := hd 12 (by kernel_rfl)
                  replace hf := hf.more ht
                  exact d_val (R := fun ρ w v => .agg (cForm.enc ((gl zProd x9 a1).2.2)).toArray = v) hw (wn rfl) (r_load_agg ty39 hf rfl (o14.cl.lens lProd_2) (cForm.len _)) rfl rfl hK
                · intro ρ w a hw hG hf hd K hK
                  obtain ⟨o1, o2, o3, o11, o14, o15⟩ := hG
                  obtain ⟨_, ht, rfl⟩ := hd 9 (by kernel_rfl)
                  replace hf := hf.more ht
                  obtain ⟨_, ht, rfl⟩ := hd 11 (by kernel_rfl)
                  replace hf := hf.more ht
                  obtain ⟨_, ht, rfl⟩ := hd 13 (by kernel_rfl)
                  replace hf := hf.more ht
                  exact d_val (R := fun ρ w v => .agg (cProd.enc (x17, (gl zProd x9 a1).2.1, (gl zProd x9 a1).2.2)).toArray = v) hw (wn rfl) (r_build_struct (pl := [(0, 9), (9, 9), (18, 9)]) (vs := [(0, .agg (cForm.enc x17).toArray), (1, .agg (cForm.enc ((gl zProd x9 a1).2.1)).toArray), (2, .agg (cForm.enc ((gl zProd x9 a1).2.2)).toArray)]) (res := (cProd.enc (x17, (gl zProd x9 a1).2.1, (gl zProd x9 a1).2.2)).toArray) Try.underlying78 (by kernel_rfl) ze78 hf rfl rfl ((fill_lens (d := cProd) (z := zProd) lProd_0 rfl rfl).trans ((fill_lens (d := cProd) (z := (x17, zProd.2.1, zProd.2.2)) lProd_1 rfl rfl).trans ((fill_lens (d := cProd) (z := (x17, (gl zProd x9 a1).2.1, zProd.2.2)) lProd_2 rfl rfl).trans rfl)))) rfl rfl hK
              · intro ρ w a hw hG hf hd
                obtain ⟨o1, o2, o3, o11, o14, o15⟩ := hG
                replace hf : Fr 99 a [(1, .int .i64 a1), (2, .int .i64 a2), (3, .pointer (some ((⟨g1, 0, none⟩ : Addr).add 0))), (6, .pointer (some ((⟨g2, 0, none⟩ : Addr).add 0))), (8, .int .i64 a0.p), (9, u11), (10, .pointer (some ((⟨g14, 0, none⟩ : Addr).add 0))), (11, .pointer (some ((⟨g15, 0, none⟩ : Addr).add 0)))] := hf
                obtain ⟨_, ht, rfl⟩ := hd 0 (by decide)
                replace hf := hf.more ht
                obtain ⟨_, ht, rfl⟩ := hd 1 (by decide)
                replace hf := hf.more ht
                obtain ⟨_, ht, rfl⟩ := hd 14 (by decide)
                replace hf := hf.more ht
                obtain ⟨ad19, hl19⟩ := Ow.ce (d := cProd) o11 zProd hc13.1 hc13.2
                refine st hf rfl rfl (by decide) (r_idx Try.underlying26 sz78 hf rfl hl19.at_ rfl hc13.1 hc13.2) fun a hf => ?_
                refine st_skip hf rfl rfl (r_store_ec (b := (x17, (gl zProd x9 a1).2.1, (gl zProd x9 a1).2.2)) zProd hw (by decide) o11 hc13.1 hc13.2 (Lens.id _) hl19.at_ ty78 (by first | rfl | exact Nat.add_assoc _ _ _ | (simp only [Nat.add_assoc]; rfl)) hf rfl rfl rfl) fun a w hf hΦ => ?_
                obtain ⟨hw, hA, o11⟩ := hΦ
                replace o1 := o1.adv hA (by decide)
                replace o2 := o2.adv hA (by decide)
                replace o3 := o3.adv hA (by decide)
                replace o14 := o14.adv hA (by decide)
                replace o15 := o15.adv hA (by decide)
                refine c_nt ?_
                refine c_seq ?_
                obtain ⟨x20, hx21, hF⟩ := of_bind hF
                replace hf : Fr 99 a [(2, .int .i64 a2), (3, .pointer (some ((⟨g1, 0, none⟩ : Addr).add 0))), (6, .pointer (some ((⟨g2, 0, none⟩ : Addr).add 0))), (8, .int .i64 a0.p), (9, u11), (10, .pointer (some ((⟨g14, 0, none⟩ : Addr).add 0))), (11, .pointer (some ((⟨g15, 0, none⟩ : Addr).add 0)))] := hf.sub ⟨rfl, rfl, rfl, rfl, rfl, rfl, rfl, trivial⟩
                refine c_drawL (h := 13) mixed (by kernel_rfl) (by kernel_rfl) (fun ρ w => Va ρ w 1 g1 28 ([.int .i64 a0.p, .int .i64 a0.n, .int .i64 a0.m, .int .i64 a0.k, va0]) ∧ Va ρ w 2 g2 28 ([.int .i64 0, .int .i64 0, .int .i64 0, .int .i64 0, (.slice none 0 0)]) ∧ Ow (kf cProd) 78 ρ w w0.heap.size 3 (.slice none 0 0) ([] : List Prod) ∧ Ow (kf cProd) 78 ρ w w0.heap.size 11 u11 (x9.set a1.toNat (x17, (gl zProd x9 a1).2.1, (gl zProd x9 a1).2.2)) ∧ Va ρ w 14 g14 78 (cProd.enc (gl zProd x9 a1)) ∧ Va ρ w 15 g15 78 (cProd.enc (gl zProd x9 a2))) ?_ [fun ρ w v => u11 = v, fun ρ w v => .int .i64 a2 = v, fun ρ w v => .pointer (some ((⟨g15, 0, none⟩ : Addr).add (0 + 0))) = v, fun ρ w v => .agg (cForm.enc ((gl zProd x9 a2).1)).toArray = v, fun ρ w v => .pointer (some ((⟨g14, 0, none⟩ : Addr).add (0 + 9))) = v, fun ρ w v => .agg (cForm.enc ((gl zProd x9 a1).2.1)).toArray = v, fun ρ w v => .int .i64 a0.p = v, fun ρ w v => .pointer (some ((⟨g14, 0, none⟩ : Addr).add (0 + 18))) = v, fun ρ w v => .agg (cForm.enc ((gl zProd x9 a1).2.2)).toArray = v, fun ρ w v => .pointer (some ((⟨g15, 0, none⟩ : Addr).add (0 + 18))) = v, fun ρ w v => .agg (cForm.enc ((gl zProd x9 a2).2.2)).toArray = v, fun ρ w v => .agg (cForm.enc x20).toArray = v, fun ρ w v => .agg (cProd.enc ((gl zProd x9 a2).1, (gl zProd x9 a1).2.1, x20)).toArray = v] ?_ hw ⟨o1, o2, o3, o11, o14, o15⟩ hf ?_ ?_
                · intro ρ w ρ' w' hE hG
                  obtain ⟨o1, o2, o3, o11, o14, o15⟩ := hG
                  exact ⟨o1.ext hE, o2.ext hE, o3.ext hE, o11.ext hE, o14.ext hE, o15.ext hE⟩
                · exact LastsL.cons (fun _ _ _ _ _ _ h => h) <| LastsL.cons (fun _ _ _ _ _ _ h => h) <| LastsL.cons (fun _ _ _ _ _ _ h => h) <| LastsL.cons (fun _ _ _ _ _ _ h => h) <| LastsL.cons (fun _ _ _ _ _ _ h => h) <| LastsL.cons (fun _ _ _ _ _ _ h => h) <| LastsL.cons (fun _ _ _ _ _ _ h => h) <| LastsL.cons (fun _ _ _ _ _ _ h => h) <| LastsL.cons (fun _ _ _ _ _ _ h => h) <| LastsL.cons (fun _ _ _ _ _ _ h => h) <| LastsL.cons (fun _ _ _ _ _ _ h => h) <| LastsL.cons (fun _ _ _ _ _ _ h => h) <| LastsL.cons (fun _ _ _ _ _ _ h => h) <| LastsL.nil
                · refine StepsB.cons ?_ <| StepsB.cons ?_ <| StepsB.cons ?_ <| StepsB.cons ?_ <| StepsB.cons ?_ <| StepsB.cons ?_ <| StepsB.cons ?_ <| StepsB.cons ?_ <| StepsB.cons ?_ <| StepsB.cons ?_ <| StepsB.cons ?_ <| StepsB.cons ?_ <| StepsB.cons ?_ <| StepsB.nil
                  · intro ρ w a hw hG hf hd K hK
                    obtain ⟨o1, o2, o3, o11, o14, o15⟩ := hG
                    exact d_val (R := fun ρ w v => u11 = v) hw (wn rfl) (r_move hf rfl) rfl rfl hK
                  · intro ρ w a hw hG hf hd K hK
                    obtain ⟨o1, o2, o3, o11, o14, o15⟩ := hG
                    exact d_val (R := fun ρ w v => .int .i64 a2 = v) hw (wn rfl) (r_move hf rfl) rfl rfl hK
                  · intro ρ w a hw hG hf hd K hK
                    obtain ⟨o1, o2, o3, o11, o14, o15⟩ := hG
                    exact d_val (R := fun ρ w v => .pointer (some ((⟨g15, 0, none⟩ : Addr).add (0 + 0))) = v) hw (wn rfl) (r_fa fa78_0 hf rfl) rfl rfl hK
                  · intro ρ w a hw hG hf hd K hK
                    obtain ⟨o1, o2, o3, o11, o14, o15⟩ := hG
                    obtain ⟨_, ht, rfl⟩ := hd 2 (by kernel_rfl)
                    replace hf := hf.more ht
                    exact d_val (R := fun ρ w v => .agg (cForm.enc ((gl zProd x9 a2).1)).toArray = v) hw (wn rfl) (r_load_agg ty39 hf rfl (o15.cl.lens lProd_0) (cForm.len _)) rfl rfl hK
                  · intro ρ w a hw hG hf hd K hK
                    obtain ⟨o1, o2, o3, o11, o14, o15⟩ := hG
                    exact d_val (R := fun ρ w v => .pointer (some ((⟨g14, 0, none⟩ : Addr).add (0 + 9))) = v) hw (wn rfl) (r_fa fa78_1 hf rfl) rfl rfl hK
                  · intro ρ w a hw hG hf hd K hK
                    obtain ⟨o1, o2, o3, o11, o14, o15⟩ := hG
                    obtain ⟨_, ht, rfl⟩ := hd 4 (by kernel_rfl)
                    replace hf := hf.more ht
                    exact d_val (R := fun ρ w v => .agg (cForm.enc ((gl zProd x9 a1).2.1)).toArray = v) hw (wn rfl) (r_load_agg ty39 hf rfl (o14.cl.lens lProd_1) (cForm.len _)) rfl rfl hK
                  · intro ρ w a hw hG hf hd K hK
                    obtain ⟨o1, o2, o3, o11, o14, o15⟩ := hG
                    exact d_val (R := fun ρ w v => .int .i64 a0.p = v) hw (wn rfl) (r_move hf rfl) rfl rfl hK
                  · intro ρ w a hw hG hf hd K hK
                    obtain ⟨o1, o2, o3, o11, o14, o15⟩ := hG
                    exact d_val (R := fun ρ w v => .pointer (some ((⟨g14, 0, none⟩ : Addr).add (0 + 18))) = v) hw (wn rfl) (r_fa fa78_2 hf rfl) rfl rfl hK
                  · intro ρ w a hw hG hf hd K hK
                    obtain ⟨o1, o2, o3, o11, o14, o15⟩ := hG
                    obtain ⟨_, ht, rfl⟩ := hd 7 (by kernel_rfl)
                    replace hf := hf.more ht
                    exact d_val (R := fun ρ w v => .agg (cForm.enc ((gl zProd x9 a1).2.2)).toArray = v) hw (wn rfl) (r_load_agg ty39 hf rfl (o14.cl.lens lProd_2) (cForm.len _)) rfl rfl hK
                  · intro ρ w a hw hG hf hd K hK
                    obtain ⟨o1, o2, o3, o11, o14, o15⟩ := hG
                    exact d_val (R := fun ρ w v => .pointer (some ((⟨g15, 0, none⟩ : Addr).add (0 + 18))) = v) hw (wn rfl) (r_fa fa78_2 hf rfl) rfl rfl hK
                  · intro ρ w a hw hG hf hd K hK
                    obtain ⟨o1, o2, o3, o11, o14, o15⟩ := hG
                    obtain ⟨_, ht, rfl⟩ := hd 9 (by kernel_rfl)
                    replace hf := hf.more ht
                    exact d_val (R := fun ρ w v => .agg (cForm.enc ((gl zProd x9 a2).2.2)).toArray = v) hw (wn rfl) (r_load_agg ty39 hf rfl (o15.cl.lens lProd_2) (cForm.len _)) rfl rfl hK
                  · intro ρ w a hw hG hf hd K hK
                    obtain ⟨o1, o2, o3, o11, o14, o15⟩ := hG
                    obtain ⟨_, ht, rfl⟩ := hd 6 (by kernel_rfl)
                    replace hf := hf.more ht
                    obtain ⟨_, ht, rfl⟩ := hd 8 (by kernel_rfl)
                    replace hf := hf.more ht
                    obtain ⟨_, ht, rfl⟩ := hd 10 (by kernel_rfl)
                    replace hf := hf.more ht
                    refine d_call (R := fun ρ w v => .agg (cForm.enc x20).toArray = v) hw (wn rfl) (r_fn en77 hf rfl) (impl_sum_ok  hx21) rfl (fun v w' hΦ => ?_) hK
                    obtain ⟨hb, hΦ⟩ := hΦ
                    obtain rfl := hΦ
                    have hE := Ext.new (ρ := ρ) 18 hb
                    exact ⟨_, hw.new 18 hb, hE, rfl⟩
                  · intro ρ w a hw hG hf hd K hK
                    obtain ⟨o1, o2, o3, o11, o14, o15⟩ := hG
                    obtain ⟨_, ht, rfl⟩ := hd 3 (by kernel_rfl)
                    replace hf := hf.more ht
                    obtain ⟨_, ht, rfl⟩ := hd 5 (by kernel_rfl)
                    replace hf := hf.more ht
                    obtain ⟨_, ht, rfl⟩ := hd 11 (by kernel_rfl)
                    replace hf := hf.more ht
                    exact d_val (R := fun ρ w v => .agg (cProd.enc ((gl zProd x9 a2).1, (gl zProd x9 a1).2.1, x20)).toArray = v) hw (wn rfl) (r_build_struct (pl := [(0, 9), (9, 9), (18, 9)]) (vs := [(0, .agg (cForm.enc ((gl zProd x9 a2).1)).toArray), (1, .agg (cForm.enc ((gl zProd x9 a1).2.1)).toArray), (2, .agg (cForm.enc x20).toArray)]) (res := (cProd.enc ((gl zProd x9 a2).1, (gl zProd x9 a1).2.1, x20)).toArray) Try.underlying78 (by kernel_rfl) ze78 hf rfl rfl ((fill_lens (d := cProd) (z := zProd) lProd_0 rfl rfl).trans ((fill_lens (d := cProd) (z := ((gl zProd x9 a2).1, zProd.2.1, zProd.2.2)) lProd_1 rfl rfl).trans ((fill_lens (d := cProd) (z := ((gl zProd x9 a2).1, (gl zProd x9 a1).2.1, zProd.2.2)) lProd_2 rfl rfl).trans rfl)))) rfl rfl hK
                · intro ρ w a hw hG hf hd
                  obtain ⟨o1, o2, o3, o11, o14, o15⟩ := hG
                  replace hf : Fr 99 a [(2, .int .i64 a2), (3, .pointer (some ((⟨g1, 0, none⟩ : Addr).add 0))), (6, .pointer (some ((⟨g2, 0, none⟩ : Addr).add 0))), (8, .int .i64 a0.p), (9, u11), (10, .pointer (some ((⟨g14, 0, none⟩ : Addr).add 0))), (11, .pointer (some ((⟨g15, 0, none⟩ : Addr).add 0)))] := hf
                  obtain ⟨_, ht, rfl⟩ := hd 0 (by decide)
                  replace hf := hf.more ht
                  obtain ⟨_, ht, rfl⟩ := hd 1 (by decide)
                  replace hf := hf.more ht
                  obtain ⟨_, ht, rfl⟩ := hd 12 (by decide)
                  replace hf := hf.more ht
                  obtain ⟨hc22, hF⟩ := of_guard hF
                  obtain ⟨ad23, hl23⟩ := Ow.ce (d := cProd) o11 zProd hc22.1 hc22.2
                  refine st hf rfl rfl (by decide) (r_idx Try.underlying26 sz78 hf rfl hl23.at_ rfl hc22.1 hc22.2) fun a hf => ?_
                  refine st_skip hf rfl rfl (r_store_ec (b := ((gl zProd x9 a2).1, (gl zProd x9 a1).2.1, x20)) zProd hw (by decide) o11 hc22.1 hc22.2 (Lens.id _) hl23.at_ ty78 (by first | rfl | exact Nat.add_assoc _ _ _ | (simp only [Nat.add_assoc]; rfl)) hf rfl rfl rfl) fun a w hf hΦ => ?_
                  obtain ⟨hw, hA, o11⟩ := hΦ
                  replace o1 := o1.adv hA (by decide)
                  replace o2 := o2.adv hA (by decide)
                  replace o3 := o3.adv hA (by decide)
                  replace o14 := o14.adv hA (by decide)
                  replace o15 := o15.adv hA (by decide)
                  refine c_nt ?_
                  refine c_seq ?_
                  obtain ⟨x24, hx25, hF⟩ := of_bind hF
                  replace hf : Fr 99 a [(3, .pointer (some ((⟨g1, 0, none⟩ : Addr).add 0))), (6, .pointer (some ((⟨g2, 0, none⟩ : Addr).add 0))), (8, .int .i64 a0.p), (9, u11), (10, .pointer (some ((⟨g14, 0, none⟩ : Addr).add 0))), (11, .pointer (some ((⟨g15, 0, none⟩ : Addr).add 0)))] := hf.sub ⟨rfl, rfl, rfl, rfl, rfl, rfl, trivial⟩
                  refine c_drawL (h := 15) mixed (by kernel_rfl) (by kernel_rfl) (fun ρ w => Va ρ w 1 g1 28 ([.int .i64 a0.p, .int .i64 a0.n, .int .i64 a0.m, .int .i64 a0.k, va0]) ∧ Va ρ w 2 g2 28 ([.int .i64 0, .int .i64 0, .int .i64 0, .int .i64 0, (.slice none 0 0)]) ∧ Ow (kf cProd) 78 ρ w w0.heap.size 3 (.slice none 0 0) ([] : List Prod) ∧ Ow (kf cProd) 78 ρ w w0.heap.size 11 u11 ((x9.set a1.toNat (x17, (gl zProd x9 a1).2.1, (gl zProd x9 a1).2.2)).set a2.toNat ((gl zProd x9 a2).1, (gl zProd x9 a1).2.1, x20)) ∧ Va ρ w 14 g14 78 (cProd.enc (gl zProd x9 a1)) ∧ Va ρ w 15 g15 78 (cProd.enc (gl zProd x9 a2))) ?_ [fun ρ w v => u11 = v, fun ρ w v => .pointer (some ((⟨g15, 0, none⟩ : Addr).add (0 + 0))) = v, fun ρ w v => .agg (cForm.enc ((gl zProd x9 a2).1)).toArray = v, fun ρ w v => .int .i64 a0.p = v, fun ρ w v => .pointer (some ((⟨g15, 0, none⟩ : Addr).add (0 + 9))) = v, fun ρ w v => .agg (cForm.enc ((gl zProd x9 a2).2.1)).toArray = v, fun ρ w v => .pointer (some ((⟨g14, 0, none⟩ : Addr).add (0 + 9))) = v, fun ρ w v => .agg (cForm.enc ((gl zProd x9 a1).2.1)).toArray = v, fun ρ w v => .int .i64 a0.p = v, fun ρ w v => .int .i64 (w64 (a0.p - 1)) = v, fun ρ w v => .agg (cForm.enc x24).toArray = v, fun ρ w v => .pointer (some ((⟨g15, 0, none⟩ : Addr).add (0 + 18))) = v, fun ρ w v => .agg (cForm.enc ((gl zProd x9 a2).2.2)).toArray = v, fun ρ w v => .agg (cProd.enc ((gl zProd x9 a2).1, x24, (gl zProd x9 a2).2.2)).toArray = v, fun ρ w v => ∃ v21, v21 = v ∧ Ow (kf cProd) 78 ρ w w0.heap.size 21 v21 ([((gl zProd x9 a2).1, x24, (gl zProd x9 a2).2.2)])] ?_ hw ⟨o1, o2, o3, o11, o14, o15⟩ hf ?_ ?_
                  · intro ρ w ρ' w' hE hG
                    obtain ⟨o1, o2, o3, o11, o14, o15⟩ := hG
                    exact ⟨o1.ext hE, o2.ext hE, o3.ext hE, o11.ext hE, o14.ext hE, o15.ext hE⟩
                  · exact LastsL.cons (fun _ _ _ _ _ _ h => h) <| LastsL.cons (fun _ _ _ _ _ _ h => h) <| LastsL.cons (fun _ _ _ _ _ _ h => h) <| LastsL.cons (fun _ _ _ _ _ _ h => h) <| LastsL.cons (fun _ _ _ _ _ _ h => h) <| LastsL.cons (fun _ _ _ _ _ _ h => h) <| LastsL.cons (fun _ _ _ _ _ _ h => h) <| LastsL.cons (fun _ _ _ _ _ _ h => h) <| LastsL.cons (fun _ _ _ _ _ _ h => h) <| LastsL.cons (fun _ _ _ _ _ _ h => h) <| LastsL.cons (fun _ _ _ _ _ _ h => h) <| LastsL.cons (fun _ _ _ _ _ _ h => h) <| LastsL.cons (fun _ _ _ _ _ _ h => h) <| LastsL.cons (fun _ _ _ _ _ _ h => h) <| LastsL.cons (fun _ _ _ _ _ hE h => by obtain ⟨v21, h, o21⟩ := h; exact ⟨_, h, o21.ext hE⟩) <| LastsL.nil
                  · refine StepsB.cons ?_ <| StepsB.cons ?_ <| StepsB.cons ?_ <| StepsB.cons ?_ <| StepsB.cons ?_ <| StepsB.cons ?_ <| StepsB.cons ?_ <| StepsB.cons ?_ <| StepsB.cons ?_ <| StepsB.cons ?_ <| StepsB.cons ?_ <| StepsB.cons ?_ <| StepsB.cons ?_ <| StepsB.cons ?_ <| StepsB.cons ?_ <| StepsB.nil
                    · intro ρ w a hw hG hf hd K hK
                      obtain ⟨o1, o2, o3, o11, o14, o15⟩ := hG
                      exact d_val (R := fun ρ w v => u11 = v) hw (wn rfl) (r_move hf rfl) rfl rfl hK
                    · intro ρ w a hw hG hf hd K hK
                      obtain ⟨o1, o2, o3, o11, o14, o15⟩ := hG
                      exact d_val (R := fun ρ w v => .pointer (some ((⟨g15, 0, none⟩ : Addr).add (0 + 0))) = v) hw (wn rfl) (r_fa fa78_0 hf rfl) rfl rfl hK
                    · intro ρ w a hw hG hf hd K hK
                      obtain ⟨o1, o2, o3, o11, o14, o15⟩ := hG
                      obtain ⟨_, ht, rfl⟩ := hd 1 (by kernel_rfl)
                      replace hf := hf.more ht
                      exact d_val (R := fun ρ w v => .agg (cForm.enc ((gl zProd x9 a2).1)).toArray = v) hw (wn rfl) (r_load_agg ty39 hf rfl (o15.cl.lens lProd_0) (cForm.len _)) rfl rfl hK
                    · intro ρ w a hw hG hf hd K hK
                      obtain ⟨o1, o2, o3, o11, o14, o15⟩ := hG
                      exact d_val (R := fun ρ w v => .int .i64 a0.p = v) hw (wn rfl) (r_move hf rfl) rfl rfl hK
                    · intro ρ w a hw hG hf hd K hK
                      obtain ⟨o1, o2, o3, o11, o14, o15⟩ := hG
                      exact d_val (R := fun ρ w v => .pointer (some ((⟨g15, 0, none⟩ : Addr).add (0 + 9))) = v) hw (wn rfl) (r_fa fa78_1 hf rfl) rfl rfl hK
                    · intro ρ w a hw hG hf hd K hK
                      obtain ⟨o1, o2, o3, o11, o14, o15⟩ := hG
                      obtain ⟨_, ht, rfl⟩ := hd 4 (by kernel_rfl)
                      replace hf := hf.more ht
                      exact d_val (R := fun ρ w v => .agg (cForm.enc ((gl zProd x9 a2).2.1)).toArray = v) hw (wn rfl) (r_load_agg ty39 hf rfl (o15.cl.lens lProd_1) (cForm.len _)) rfl rfl hK
                    · intro ρ w a hw hG hf hd K hK
                      obtain ⟨o1, o2, o3, o11, o14, o15⟩ := hG
                      exact d_val (R := fun ρ w v => .pointer (some ((⟨g14, 0, none⟩ : Addr).add (0 + 9))) = v) hw (wn rfl) (r_fa fa78_1 hf rfl) rfl rfl hK
                    · intro ρ w a hw hG hf hd K hK
                      obtain ⟨o1, o2, o3, o11, o14, o15⟩ := hG
                      obtain ⟨_, ht, rfl⟩ := hd 6 (by kernel_rfl)
                      replace hf := hf.more ht
                      exact d_val (R := fun ρ w v => .agg (cForm.enc ((gl zProd x9 a1).2.1)).toArray = v) hw (wn rfl) (r_load_agg ty39 hf rfl (o14.cl.lens lProd_1) (cForm.len _)) rfl rfl hK
                    · intro ρ w a hw hG hf hd K hK
                      obtain ⟨o1, o2, o3, o11, o14, o15⟩ := hG
                      exact d_val (R := fun ρ w v => .int .i64 a0.p = v) hw (wn rfl) (r_move hf rfl) rfl rfl hK
                    · intro ρ w a hw hG hf hd K hK
                      obtain ⟨o1, o2, o3, o11, o14, o15⟩ := hG
                      obtain ⟨_, ht, rfl⟩ := hd 8 (by kernel_rfl)
                      replace hf := hf.more ht
                      exact d_val (R := fun ρ w v => .int .i64 (w64 (a0.p - 1)) = v) hw (wn rfl) (r_sub hf rfl rfl) rfl rfl hK
                    · intro ρ w a hw hG hf hd K hK
                      obtain ⟨o1, o2, o3, o11, o14, o15⟩ := hG
                      obtain ⟨_, ht, rfl⟩ := hd 3 (by kernel_rfl)
                      replace hf := hf.more ht
                      obtain ⟨_, ht, rfl⟩ := hd 5 (by kernel_rfl)
                      replace hf := hf.more ht
                      obtain ⟨_, ht, rfl⟩ := hd 7 (by kernel_rfl)
                      replace hf := hf.more ht
                      obtain ⟨_, ht, rfl⟩ := hd 9 (by kernel_rfl)
                      replace hf := hf.more ht
                      refine d_call (R := fun ρ w v => .agg (cForm.enc x24).toArray = v) hw (wn rfl) (r_fn en77 hf rfl) (impl_sum_ok  hx25) rfl (fun v w' hΦ => ?_) hK
                      obtain ⟨hb, hΦ⟩ := hΦ
                      obtain rfl := hΦ
                      have hE := Ext.new (ρ := ρ) 20 hb
                      exact ⟨_, hw.new 20 hb, hE, rfl⟩
                    · intro ρ w a hw hG hf hd K hK
                      obtain ⟨o1, o2, o3, o11, o14, o15⟩ := hG
                      exact d_val (R := fun ρ w v => .pointer (some ((⟨g15, 0, none⟩ : Addr).add (0 + 18))) = v) hw (wn rfl) (r_fa fa78_2 hf rfl) rfl rfl hK
                    · intro ρ w a hw hG hf hd K hK
                      obtain ⟨o1, o2, o3, o11, o14, o15⟩ := hG
                      obtain ⟨_, ht, rfl⟩ := hd 11 (by kernel_rfl)
                      replace hf := hf.more ht
                      exact d_val (R := fun ρ w v => .agg (cForm.enc ((gl zProd x9 a2).2.2)).toArray = v) hw (wn rfl) (r_load_agg ty39 hf rfl (o15.cl.lens lProd_2) (cForm.len _)) rfl rfl hK
                    · intro ρ w a hw hG hf hd K hK
                      obtain ⟨o1, o2, o3, o11, o14, o15⟩ := hG
                      obtain ⟨_, ht, rfl⟩ := hd 2 (by kernel_rfl)
                      replace hf := hf.more ht
                      obtain ⟨_, ht, rfl⟩ := hd 10 (by kernel_rfl)
                      replace hf := hf.more ht
                      obtain ⟨_, ht, rfl⟩ := hd 12 (by kernel_rfl)
                      replace hf := hf.more ht
                      exact d_val (R := fun ρ w v => .agg (cProd.enc ((gl zProd x9 a2).1, x24, (gl zProd x9 a2).2.2)).toArray = v) hw (wn rfl) (r_build_struct (pl := [(0, 9), (9, 9), (18, 9)]) (vs := [(0, .agg (cForm.enc ((gl zProd x9 a2).1)).toArray), (1, .agg (cForm.enc x24).toArray), (2, .agg (cForm.enc ((gl zProd x9 a2).2.2)).toArray)]) (res := (cProd.enc ((gl zProd x9 a2).1, x24, (gl zProd x9 a2).2.2)).toArray) Try.underlying78 (by kernel_rfl) ze78 hf rfl rfl ((fill_lens (d := cProd) (z := zProd) lProd_0 rfl rfl).trans ((fill_lens (d := cProd) (z := ((gl zProd x9 a2).1, zProd.2.1, zProd.2.2)) lProd_1 rfl rfl).trans ((fill_lens (d := cProd) (z := ((gl zProd x9 a2).1, x24, zProd.2.2)) lProd_2 rfl rfl).trans rfl)))) rfl rfl hK
                    · intro ρ w a hw hG hf hd K hK
                      obtain ⟨o1, o2, o3, o11, o14, o15⟩ := hG
                      obtain ⟨_, ht, rfl⟩ := hd 13 (by kernel_rfl)
                      replace hf := hf.more ht
                      refine d_ex (R := fun ρ w v => ∃ v21, v21 = v ∧ Ow (kf cProd) 78 ρ w w0.heap.size 21 v21 ([((gl zProd x9 a2).1, x24, (gl zProd x9 a2).2.2)])) hw (wn rfl) (r_lit (d := cProd) (xs := ([((gl zProd x9 a2).1, x24, (gl zProd x9 a2).2.2)] : List Prod)) (vs := [.agg (cProd.enc ((gl zProd x9 a2).1, x24, (gl zProd x9 a2).2.2)).toArray]) 21 Try.underlying26 el78 (Nat.le_of_ble_eq_true rfl) (Nat.le_of_ble_eq_true rfl) hw hf rfl rfl rfl) rfl (fun v21 w' hΦ => ?_) hK
                      obtain ⟨ρ, hw, hE, o21⟩ := hΦ
                      exact ⟨_, hw, hE, _, rfl, o21⟩
                  · intro ρ w a hw hG hf hd
                    obtain ⟨o1, o2, o3, o11, o14, o15⟩ := hG
                    replace hf : Fr 99 a [(3, .pointer (some ((⟨g1, 0, none⟩ : Addr).add 0))), (6, .pointer (some ((⟨g2, 0, none⟩ : Addr).add 0))), (8, .int .i64 a0.p), (9, u11), (10, .pointer (some ((⟨g14, 0, none⟩ : Addr).add 0))), (11, .pointer (some ((⟨g15, 0, none⟩ : Addr).add 0)))] := hf
                    obtain ⟨_, ht, rfl⟩ := hd 0 (by decide)
                    replace hf := hf.more ht
                    obtain ⟨_, ht, ⟨v21, rfl, o21⟩⟩ := hd 14 (by decide)
                    replace hf := hf.more ht
                    obtain ⟨hc26, hF⟩ := of_guard hF
                    refine st_ex hf rfl rfl (by decide) (r_append Try.underlying26 el78 hw (by decide) o11 o21.ro hc26 hf rfl rfl) fun a va27 w hf hΦ => ?_
                    obtain ⟨ρ, hw, hA, o11⟩ := hΦ
                    replace o1 := o1.adv hA (by decide)
                    replace o2 := o2.adv hA (by decide)
                    replace o3 := o3.adv hA (by decide)
                    replace o14 := o14.adv hA (by decide)
                    replace o15 := o15.adv hA (by decide)
                    replace o21 := o21.adv hA (by decide)
                    refine st hf rfl rfl (by decide) (r_assign hf rfl) fun a hf => ?_
                    refine c_nt ?_
                    refine c_seq ?_
                    obtain ⟨x28, hx29, hF⟩ := of_bind hF
                    replace hf : Fr 99 a [(3, .pointer (some ((⟨g1, 0, none⟩ : Addr).add 0))), (6, .pointer (some ((⟨g2, 0, none⟩ : Addr).add 0))), (9, va27)] := hf.sub ⟨rfl, rfl, rfl, trivial⟩
                    refine c_stage 3 [2] mixed (by kernel_rfl) (by kernel_rfl) (fun c ρ w => Va ρ w 1 g1 28 ([.int .i64 a0.p, .int .i64 a0.n, .int .i64 a0.m, .int .i64 a0.k, va0]) ∧ Va ρ w 2 g2 28 ([.int .i64 0, .int .i64 0, .int .i64 0, .int .i64 0, (.slice none 0 0)]) ∧ Ow (kf cProd) 78 ρ w w0.heap.size 3 (.slice none 0 0) ([] : List Prod) ∧ (c ≤ 0 → Ow (kf cProd) 78 ρ w w0.heap.size 11 va27 (((x9.set a1.toNat (x17, (gl zProd x9 a1).2.1, (gl zProd x9 a1).2.2)).set a2.toNat ((gl zProd x9 a2).1, (gl zProd x9 a1).2.1, x20)) ++ [((gl zProd x9 a2).1, x24, (gl zProd x9 a2).2.2)]))) ?_ [fun c ρ w v => .agg ([.int .i64 a0.p, .int .i64 a0.n, .int .i64 a0.m, .int .i64 a0.k, va0]).toArray = v, fun c ρ w v => va27 = v, fun c ρ w v => ∃ u30, u30 = v ∧ Ow (kf cProd) 78 ρ w w0.heap.size 11 u30 x28] ?_ hw ⟨o1, o2, o3, (fun _ => o11)⟩ hf ?_ ?_
                    · intro c ρ w ρ' w' hE hG
                      obtain ⟨o1, o2, o3, o11x⟩ := hG
                      exact ⟨o1.ext hE, o2.ext hE, o3.ext hE, (fun h => (o11x h).ext hE)⟩
                    · exact LastsS.cons (fun _ _ _ _ _ _ _ h => h) <| LastsS.cons (fun _ _ _ _ _ _ _ h => h) <| LastsS.cons (fun c _ _ _ _ _ hE h => by obtain ⟨u30, h, o11⟩ := h; exact ⟨_, h, o11.ext hE⟩) <| LastsS.nil
                    · refine StepsS.float rfl ?_ <| StepsS.float rfl ?_ <| StepsS.main 0 rfl rfl ?_ <| StepsS.nil
                      · intro c ρ w a hs hw hG hf hd K hK
                        obtain ⟨o1, o2, o3, o11x⟩ := hG
                        exact d_val (R := fun ρ w v => .agg ([.int .i64 a0.p, .int .i64 a0.n, .int .i64 a0.m, .int .i64 a0.k, va0]).toArray = v) hw (wn rfl) (r_load_agg ty28 hf rfl o1.cl rfl) rfl rfl hK
                      · intro c ρ w a hs hw hG hf hd K hK
                        obtain ⟨o1, o2, o3, o11x⟩ := hG
                        have o11 := o11x (hs 0 (by decide) (by kernel_rfl))
                        exact d_val (R := fun ρ w v => va27 = v) hw (wn rfl) (r_move hf rfl) rfl rfl hK
                      · intro ρ w a S hw hG hf hS hdep hSi K hK
                        obtain ⟨o1, o2, o3, o11x⟩ := hG
                        have hfL := hf
                        have o11 := o11x (by decide)
                        obtain ⟨_, ht1, rfl⟩ := hS 1 (by decide) (hdep 1 (by kernel_rfl)) (by kernel_rfl)
                        replace hf := hf.more ht1
                        refine m_call (ms := [2]) (Γ := fun c ρ w => Va ρ w 1 g1 28 ([.int .i64 a0.p, .int .i64 a0.n, .int .i64 a0.m, .int .i64 a0.k, va0]) ∧ Va ρ w 2 g2 28 ([.int .i64 0, .int .i64 0, .int .i64 0, .int .i64 0, (.slice none 0 0)]) ∧ Ow (kf cProd) 78 ρ w w0.heap.size 3 (.slice none 0 0) ([] : List Prod) ∧ (c ≤ 0 → Ow (kf cProd) 78 ρ w w0.heap.size 11 va27 (((x9.set a1.toNat (x17, (gl zProd x9 a1).2.1, (gl zProd x9 a1).2.2)).set a2.toNat ((gl zProd x9 a2).1, (gl zProd x9 a1).2.1, x20)) ++ [((gl zProd x9 a2).1, x24, (gl zProd x9 a2).2.2)]))) (Rl := [fun c ρ w v => .agg ([.int .i64 a0.p, .int .i64 a0.n, .int .i64 a0.m, .int .i64 a0.k, va0]).toArray = v, fun c ρ w v => va27 = v, fun c ρ w v => ∃ u30, u30 = v ∧ Ow (kf cProd) 78 ρ w w0.heap.size 11 u30 x28]) hfL hS (by decide) rfl (by kernel_rfl) (by kernel_rfl) (wn rfl) rfl (r_fn en79 hf rfl) (impl_kept_ok (by decide) hw o11 hx29) (fun v w' hΦ => ?_) hK
                        obtain ⟨ρ, hw, hA, hΦ⟩ := hΦ
                        obtain ⟨u30, rfl, o11⟩ := hΦ
                        replace o1 := o1.adv hA (by decide)
                        replace o2 := o2.adv hA (by decide)
                        replace o3 := o3.adv hA (by decide)
                        refine ⟨_, hw, ⟨o1, o2, o3, (fun h => absurd h (by decide))⟩, ?_, ?_⟩
                        · exact PassL.cons (fun h => h) <| PassL.cons (fun h => h) <| PassL.here <| PassL.nil
                        · exact ⟨_, rfl, o11⟩
                    · intro ρ w a hw hG hf hd
                      obtain ⟨o1, o2, o3, o11x⟩ := hG
                      replace hf : Fr 99 a [(3, .pointer (some ((⟨g1, 0, none⟩ : Addr).add 0))), (6, .pointer (some ((⟨g2, 0, none⟩ : Addr).add 0))), (9, va27)] := hf
                      obtain ⟨_, ht, rfl⟩ := hd 0 (by decide) (by kernel_rfl)
                      replace hf := hf.more ht
                      obtain ⟨_, ht, ⟨u30, rfl, o11⟩⟩ := hd 2 (by decide) (by kernel_rfl)
                      replace hf := hf.more ht
                      obtain ⟨x31, hx32, hF⟩ := of_bind hF
                      refine st_mfn hf rfl rfl (by decide) (r_fn en78 hf rfl) (impl_with_ok (a0 := a0) (by decide) hw h0 o11 hx32) fun a v w ρ hf hw hA hΦ => ?_
                      obtain ⟨u33, rfl, o11⟩ := hΦ
                      replace o1 := o1.adv hA (by decide)
                      replace o2 := o2.adv hA (by decide)
                      replace o3 := o3.adv hA (by decide)
                      refine st_skip hf rfl rfl (r_store_w (cs' := [.int .i64 x31.p, .int .i64 x31.n, .int .i64 x31.m, .int .i64 x31.k, u33]) hw o2 (by decide) ty28 rfl rfl (one_sch o11.ro.one) hf rfl rfl rfl) fun a w hf hΦ => ?_
                      obtain ⟨hw, hA, o2⟩ := hΦ
                      replace o1 := o1.adv hA (by decide)
                      replace o3 := o3.adv hA (by decide)
                      replace o11 := o11.adv hA (by decide)
                      refine st hf rfl rfl (by decide) (r_assign hf rfl) fun a hf => ?_
                      refine c_nt ?_
                      refine c_retc ?_
                      obtain rfl := Option.some.inj hF
                      refine c_ret hf (res_ct Try.results23 ty28 hf rfl o2.cl rfl rfl) ?_
                      exact ⟨_, rfl, hw.below, ⟨_, rfl, o11.out⟩⟩
/-! f84 -/
noncomputable def spec_l03Factor (a0 : Prod) (a1 : Int) : Option Form :=
  if (decide (a1 = 0)) = true then (some (a0.1)) else (if (decide (a1 = 1)) = true then (some (a0.2.1)) else (some (a0.2.2)))
theorem spec_l03Factor_ok {w0 : World} {a0 : Prod} {a1 : Int}   {r : Form} (hF : spec_l03Factor a0 a1 = some r) :
    Calls Try.prog 84 [.agg (cProd.enc a0).toArray, .int .i64 a1].toArray w0 fun e w => ∃ v, e = .returned v ∧ Below w0.heap.size w0 w ∧ .agg (cForm.enc r).toArray = v := by
  refine calls_of (k := 16) Try.func84 rfl rfl (Nat.le_of_ble_eq_true rfl) fun a hf => ?_
  replace hf : Fr 16 a [(0, .agg (cProd.enc a0).toArray), (1, .int .i64 a1)] := hf
  refine c_start fun w ρ hw => ?_
  unfold spec_l03Factor at hF
  refine c_seq ?_
  refine c_region ?_
  refine st_ex hf rfl rfl (by decide) (r_box (cs := cProd.enc a0) 1 hw hf rfl rfl) fun a v w hf hΦ => ?_
  obtain ⟨g1, ρ, rfl, hw, hE, o1⟩ := hΦ
  refine st_ex hf rfl rfl (by decide) (r_alloc (cs := cForm.enc zForm) 2 ze39 rfl hw) fun a v w hf hΦ => ?_
  obtain ⟨g2, ρ, rfl, hw, hE, o2⟩ := hΦ
  replace o1 := o1.ext hE
  refine c_nt ?_
  refine c_seq ?_
  refine c_seq ?_
  refine c_region ?_
  refine st hf rfl rfl (by decide) (r_move hf rfl) fun a hf => ?_
  refine c_nt ?_
  refine c_block ?_
  refine c_seq ?_
  refine c_region ?_
  refine st hf rfl rfl (by decide) (r_eql hf rfl rfl) fun a hf => ?_
  refine st hf rfl rfl (by decide) (r_assign hf rfl) fun a hf => ?_
  refine c_nt ?_
  rcases of_ite hF with ⟨hb1, hF⟩ | ⟨hb1, hF⟩
  · refine c_ift hf rfl hb1 ?_
    refine c_seq ?_
    refine c_region ?_
    refine st hf rfl rfl (by decide) (r_fa fa78_0 hf rfl) fun a hf => ?_
    refine st hf rfl rfl (by decide) (r_load_agg ty39 hf rfl (o1.cl.lens lProd_0) (cForm.len _)) fun a hf => ?_
    refine st_skip hf rfl rfl (r_store_w (cs' := cForm.enc a0.1) hw o2 (by decide) ty39 (cForm.len _) (cForm.len _) (cForm.one _) hf rfl rfl rfl) fun a w hf hΦ => ?_
    obtain ⟨hw, hA, o2⟩ := hΦ
    replace o1 := o1.adv hA (by decide)
    refine c_nt ?_
    refine c_retc ?_
    obtain rfl := Option.some.inj hF
    refine r_block ?_
    refine r_then ?_
    refine c_ret hf (res_cell Try.results84 ty39 hf rfl o2.cl (cForm.len _)) ?_
    exact ⟨_, rfl, hw.below, rfl⟩
  · refine c_iff hf rfl hb1 ?_
    refine c_seq ?_
    refine c_region ?_
    refine st hf rfl rfl (by decide) (r_eql hf rfl rfl) fun a hf => ?_
    refine st hf rfl rfl (by decide) (r_assign hf rfl) fun a hf => ?_
    refine c_nt ?_
    rcases of_ite hF with ⟨hb2, hF⟩ | ⟨hb2, hF⟩
    · refine c_ift hf rfl hb2 ?_
      refine c_seq ?_
      refine c_region ?_
      refine st hf rfl rfl (by decide) (r_fa fa78_1 hf rfl) fun a hf => ?_
      refine st hf rfl rfl (by decide) (r_load_agg ty39 hf rfl (o1.cl.lens lProd_1) (cForm.len _)) fun a hf => ?_
      refine st_skip hf rfl rfl (r_store_w (cs' := cForm.enc a0.2.1) hw o2 (by decide) ty39 (cForm.len _) (cForm.len _) (cForm.one _) hf rfl rfl rfl) fun a w hf hΦ => ?_
      obtain ⟨hw, hA, o2⟩ := hΦ
      replace o1 := o1.adv hA (by decide)
      refine c_nt ?_
      refine c_retc ?_
      obtain rfl := Option.some.inj hF
      refine r_block ?_
      refine r_then ?_
      refine c_ret hf (res_cell Try.results84 ty39 hf rfl o2.cl (cForm.len _)) ?_
      exact ⟨_, rfl, hw.below, rfl⟩
    · refine c_iff hf rfl hb2 ?_
      refine c_skip ?_
      refine n_block ?_
      refine n_then ?_
      refine c_seq ?_
      refine c_region ?_
      refine st hf rfl rfl (by decide) (r_fa fa78_2 hf rfl) fun a hf => ?_
      refine st hf rfl rfl (by decide) (r_load_agg ty39 hf rfl (o1.cl.lens lProd_2) (cForm.len _)) fun a hf => ?_
      refine st_skip hf rfl rfl (r_store_w (cs' := cForm.enc a0.2.2) hw o2 (by decide) ty39 (cForm.len _) (cForm.len _) (cForm.one _) hf rfl rfl rfl) fun a w hf hΦ => ?_
      obtain ⟨hw, hA, o2⟩ := hΦ
      replace o1 := o1.adv hA (by decide)
      refine c_nt ?_
      refine c_retc ?_
      obtain rfl := Option.some.inj hF
      refine c_ret hf (res_cell Try.results84 ty39 hf rfl o2.cl (cForm.len _)) ?_
      exact ⟨_, rfl, hw.below, rfl⟩
/-! f89 -/
noncomputable def spec_l03Flip (a0 : Sch) (a1 : Int) (a2 : Int) (a3 : Int) (a4 : Int) : Option Sch :=
  if (([] : List Prod).length + a0.ps.length) * 27 ≤ 140737488355328 then (if 0 ≤ a1 ∧ a1 < ((([] : List Prod) ++ a0.ps).length : Int) then (if 0 ≤ a2 ∧ a2 < ((([] : List Prod) ++ a0.ps).length : Int) then ((spec_l03Factor (gl zProd (([] : List Prod) ++ a0.ps) a1) ((w64 (a3 + 1)).tmod 3)).bind fun x7 => (spec_l03Factor (gl zProd (([] : List Prod) ++ a0.ps) a2) ((w64 (a3 + 1)).tmod 3)).bind fun x9 => (spec_l01Add a0.p x7 x9 a4).bind fun x11 => (spec_l03With (gl zProd (([] : List Prod) ++ a0.ps) a1) ((w64 (a3 + 1)).tmod 3) x11).bind fun x13 => (spec_l03Factor (gl zProd (([] : List Prod) ++ a0.ps) a2) ((w64 (a3 + 2)).tmod 3)).bind fun x16 => (spec_l03Factor (gl zProd (([] : List Prod) ++ a0.ps) a1) ((w64 (a3 + 2)).tmod 3)).bind fun x18 => (spec_l01Add a0.p x16 x18 (w64 (0 - a4))).bind fun x20 => (spec_l03With (gl zProd (([] : List Prod) ++ a0.ps) a2) ((w64 (a3 + 2)).tmod 3) x20).bind fun x22 => if 0 ≤ a2 ∧ a2 < (((([] : List Prod) ++ a0.ps).set a1.toNat x13).length : Int) then ((spec_l03Told a0 (((([] : List Prod) ++ a0.ps).set a1.toNat x13).set a2.toNat x22)).bind fun x26 => some (x26)) else none) else none) else none) else none
theorem spec_l03Flip_ok {w0 : World} {a0 : Sch} {a1 : Int} {a2 : Int} {a3 : Int} {a4 : Int} {va0 : Value} (h0 : Ro (kf cProd) w0 va0 a0.ps) {r : Sch} (hF : spec_l03Flip a0 a1 a2 a3 a4 = some r) :
    Calls Try.prog 89 [.agg ([.int .i64 a0.p, .int .i64 a0.n, .int .i64 a0.m, .int .i64 a0.k, va0]).toArray, .int .i64 a1, .int .i64 a2, .int .i64 a3, .int .i64 a4].toArray w0 fun e w => ∃ v, e = .returned v ∧ Below w0.heap.size w0 w ∧ ∃ u0, .agg [.int .i64 r.p, .int .i64 r.n, .int .i64 r.m, .int .i64 r.k, u0].toArray = v ∧ Fresh (kf cProd) 78 w0 w u0 r.ps := by
  refine calls_of (k := 70) Try.func89 rfl rfl (Nat.le_of_ble_eq_true rfl) fun a hf => ?_
  replace hf : Fr 70 a [(0, .agg ([.int .i64 a0.p, .int .i64 a0.n, .int .i64 a0.m, .int .i64 a0.k, va0]).toArray), (1, .int .i64 a1), (2, .int .i64 a2), (3, .int .i64 a3), (4, .int .i64 a4)] := hf
  refine c_start fun w ρ hw => ?_
  unfold spec_l03Flip at hF
  refine c_seq ?_
  refine c_region ?_
  refine st_ex hf rfl rfl (by decide) (r_box (cs := [.int .i64 a0.p, .int .i64 a0.n, .int .i64 a0.m, .int .i64 a0.k, va0]) 1 hw hf rfl rfl) fun a v w hf hΦ => ?_
  obtain ⟨g1, ρ, rfl, hw, hE, o1⟩ := hΦ
  have o3 : Ow (kf cProd) 78 ρ w w0.heap.size 3 (.slice none 0 0) [] := Ow.nil _ _ _ _ _ _
  refine st_ex hf rfl rfl (by decide) (r_alloc (cs := [.int .i64 0, .int .i64 0, .int .i64 0, .int .i64 0, (.slice none 0 0)]) 2 ze28 rfl hw) fun a v w hf hΦ => ?_
  obtain ⟨g2, ρ, rfl, hw, hE, o2⟩ := hΦ
  replace o1 := o1.ext hE
  replace o3 := o3.ext hE
  refine c_nt ?_
  refine c_seq ?_
  refine c_region ?_
  refine st_ex hf rfl rfl (by decide) (r_lit (d := cProd) (xs := ([] : List Prod)) (vs := []) 4 Try.underlying26 el78 (Nat.le_of_ble_eq_true rfl) (Nat.le_of_ble_eq_true rfl) hw hf rfl rfl rfl) fun a v4 w hf hΦ => ?_
  obtain ⟨ρ, hw, hE, o4⟩ := hΦ
  replace o1 := o1.ext hE
  replace o3 := o3.ext hE
  replace o2 := o2.ext hE
  refine st hf rfl rfl (by decide) (r_fa fa28_4 hf rfl) fun a hf => ?_
  refine st hf rfl rfl (by decide) (r_load_cell ty26 hf rfl (o1.cl.at_ 4 _ rfl)) fun a hf => ?_
  obtain ⟨hc1, hF⟩ := of_guard hF
  refine st_ex hf rfl rfl (by decide) (r_append Try.underlying26 el78 hw (by decide) o4 (h0.now hw) hc1 hf rfl rfl) fun a va2 w hf hΦ => ?_
  obtain ⟨ρ, hw, hA, o4⟩ := hΦ
  replace o1 := o1.adv hA (by decide)
  replace o3 := o3.adv hA (by decide)
  replace o2 := o2.adv hA (by decide)
  refine st hf rfl rfl (by decide) (r_assign hf rfl) fun a hf => ?_
  refine c_nt ?_
  refine c_seq ?_
  refine c_region ?_
  refine st hf rfl rfl (by decide) (r_move hf rfl) fun a hf => ?_
  refine st hf rfl rfl (by decide) (r_add hf rfl rfl) fun a hf => ?_
  refine st hf rfl rfl (by decide) (r_rem hf rfl rfl (by decide)) fun a hf => ?_
  refine st hf rfl rfl (by decide) (r_move hf rfl) fun a hf => ?_
  refine st hf rfl rfl (by decide) (r_add hf rfl rfl) fun a hf => ?_
  refine st hf rfl rfl (by decide) (r_rem hf rfl rfl (by decide)) fun a hf => ?_
  refine st hf rfl rfl (by decide) (r_assign hf rfl) fun a hf => ?_
  refine st hf rfl rfl (by decide) (r_assign hf rfl) fun a hf => ?_
  refine c_nt ?_
  refine c_seq ?_
  obtain ⟨hc3, hF⟩ := of_guard hF
  obtain ⟨hc5, hF⟩ := of_guard hF
  replace hf : Fr 70 a [(1, .int .i64 a1), (2, .int .i64 a2), (4, .int .i64 a4), (5, .pointer (some ((⟨g1, 0, none⟩ : Addr).add 0))), (10, .pointer (some ((⟨g2, 0, none⟩ : Addr).add 0))), (11, va2), (12, .int .i64 ((w64 (a3 + 1)).tmod 3)), (13, .int .i64 ((w64 (a3 + 2)).tmod 3))] := hf.sub ⟨rfl, rfl, rfl, rfl, rfl, rfl, rfl, rfl, trivial⟩
  refine c_stage 11 [10] mixed (by kernel_rfl) (by kernel_rfl) (fun c ρ w => Va ρ w 1 g1 28 ([.int .i64 a0.p, .int .i64 a0.n, .int .i64 a0.m, .int .i64 a0.k, va0]) ∧ Va ρ w 2 g2 28 ([.int .i64 0, .int .i64 0, .int .i64 0, .int .i64 0, (.slice none 0 0)]) ∧ Ow (kf cProd) 78 ρ w w0.heap.size 3 (.slice none 0 0) ([] : List Prod) ∧ Ow (kf cProd) 78 ρ w w0.heap.size 4 va2 (([] : List Prod) ++ a0.ps)) ?_ [fun c ρ w v => va2 = v, fun c ρ w v => .int .i64 a1 = v, fun c ρ w v => ∃ ad4, .pointer (some (ad4.add (a1.toNat * 27))) = v ∧ Ce ρ w 4 va2 ((([] : List Prod) ++ a0.ps).length) ad4 (a1.toNat * 27) (cProd.enc (gl zProd (([] : List Prod) ++ a0.ps) a1)), fun c ρ w v => .agg (cProd.enc (gl zProd (([] : List Prod) ++ a0.ps) a1)).toArray = v, fun c ρ w v => va2 = v, fun c ρ w v => .int .i64 a2 = v, fun c ρ w v => ∃ ad6, .pointer (some (ad6.add (a2.toNat * 27))) = v ∧ Ce ρ w 4 va2 ((([] : List Prod) ++ a0.ps).length) ad6 (a2.toNat * 27) (cProd.enc (gl zProd (([] : List Prod) ++ a0.ps) a2)), fun c ρ w v => .agg (cProd.enc (gl zProd (([] : List Prod) ++ a0.ps) a2)).toArray = v, fun c ρ w v => ∃ g7, .pointer (some ((⟨g7, 0, none⟩ : Addr).add 0)) = v ∧ (c ≤ 0 → Va ρ w 7 g7 78 (cProd.enc zProd)) ∧ (0 < c → Va ρ w 7 g7 78 (cProd.enc (gl zProd (([] : List Prod) ++ a0.ps) a1))), fun c ρ w v => ∃ g8, .pointer (some ((⟨g8, 0, none⟩ : Addr).add 0)) = v ∧ Va ρ w 8 g8 78 (cProd.enc zProd), fun _ _ _ _ => True] ?_ hw ⟨o1, o2, o3, o4⟩ hf ?_ ?_
  · intro c ρ w ρ' w' hE hG
    obtain ⟨o1, o2, o3, o4⟩ := hG
    exact ⟨o1.ext hE, o2.ext hE, o3.ext hE, o4.ext hE⟩
  · exact LastsS.cons (fun _ _ _ _ _ _ _ h => h) <| LastsS.cons (fun _ _ _ _ _ _ _ h => h) <| LastsS.cons (fun c _ _ _ _ _ hE h => by obtain ⟨ad4, h, hl4⟩ := h; exact ⟨_, h, hl4.ext hE⟩) <| LastsS.cons (fun _ _ _ _ _ _ _ h => h) <| LastsS.cons (fun _ _ _ _ _ _ _ h => h) <| LastsS.cons (fun _ _ _ _ _ _ _ h => h) <| LastsS.cons (fun c _ _ _ _ _ hE h => by obtain ⟨ad6, h, hl6⟩ := h; exact ⟨_, h, hl6.ext hE⟩) <| LastsS.cons (fun _ _ _ _ _ _ _ h => h) <| LastsS.cons (fun c _ _ _ _ _ hE h => by obtain ⟨g7, h, hx, hy⟩ := h; exact ⟨_, h, fun h => (hx h).ext hE, (fun h => by obtain o7 := hy h; exact o7.ext hE)⟩) <| LastsS.cons (fun c _ _ _ _ _ hE h => by obtain ⟨g8, h, o8⟩ := h; exact ⟨_, h, o8.ext hE⟩) <| LastsS.cons (fun _ _ _ _ _ _ _ h => h) <| LastsS.nil
  · refine StepsS.float rfl ?_ <| StepsS.float rfl ?_ <| StepsS.float rfl ?_ <| StepsS.float rfl ?_ <| StepsS.float rfl ?_ <| StepsS.float rfl ?_ <| StepsS.float rfl ?_ <| StepsS.float rfl ?_ <| StepsS.float rfl ?_ <| StepsS.float rfl ?_ <| StepsS.main 0 rfl rfl ?_ <| StepsS.nil
    · intro c ρ w a hs hw hG hf hd K hK
      obtain ⟨o1, o2, o3, o4⟩ := hG
      exact d_val (R := fun ρ w v => va2 = v) hw (wn rfl) (r_move hf rfl) rfl rfl hK
    · intro c ρ w a hs hw hG hf hd K hK
      obtain ⟨o1, o2, o3, o4⟩ := hG
      exact d_val (R := fun ρ w v => .int .i64 a1 = v) hw (wn rfl) (r_move hf rfl) rfl rfl hK
    · intro c ρ w a hs hw hG hf hd K hK
      obtain ⟨o1, o2, o3, o4⟩ := hG
      obtain ⟨_, ht0, rfl⟩ := hd 0 (by kernel_rfl) (by kernel_rfl)
      replace hf := hf.more ht0
      obtain ⟨_, ht1, rfl⟩ := hd 1 (by kernel_rfl) (by kernel_rfl)
      replace hf := hf.more ht1
      obtain ⟨ad4, hl4⟩ := Ow.ce (d := cProd) o4 zProd hc3.1 hc3.2
      exact d_val (R := fun ρ w v => ∃ ad4, .pointer (some (ad4.add (a1.toNat * 27))) = v ∧ Ce ρ w 4 va2 ((([] : List Prod) ++ a0.ps).length) ad4 (a1.toNat * 27) (cProd.enc (gl zProd (([] : List Prod) ++ a0.ps) a1))) hw (wn rfl) (r_idx Try.underlying26 sz78 hf rfl hl4.at_ rfl hc3.1 hc3.2) rfl ⟨_, rfl, hl4⟩ hK
    · intro c ρ w a hs hw hG hf hd K hK
      obtain ⟨o1, o2, o3, o4⟩ := hG
      obtain ⟨_, ht2, ⟨ad4, rfl, hl4⟩⟩ := hd 2 (by kernel_rfl) (by kernel_rfl)
      replace hf := hf.more ht2
      exact d_val (R := fun ρ w v => .agg (cProd.enc (gl zProd (([] : List Prod) ++ a0.ps) a1)).toArray = v) hw (wn rfl) (r_load_agg ty78 hf rfl hl4.co.cl (cProd.len _)) rfl rfl hK
    · intro c ρ w a hs hw hG hf hd K hK
      obtain ⟨o1, o2, o3, o4⟩ := hG
      exact d_val (R := fun ρ w v => va2 = v) hw (wn rfl) (r_move hf rfl) rfl rfl hK
    · intro c ρ w a hs hw hG hf hd K hK
      obtain ⟨o1, o2, o3, o4⟩ := hG
      exact d_val (R := fun ρ w v => .int .i64 a2 = v) hw (wn rfl) (r_move hf rfl) rfl rfl hK
    · intro c ρ w a hs hw hG hf hd K hK
      obtain ⟨o1, o2, o3, o4⟩ := hG
      obtain ⟨_, ht4, rfl⟩ := hd 4 (by kernel_rfl) (by kernel_rfl)
      replace hf := hf.more ht4
      obtain ⟨_, ht5, rfl⟩ := hd 5 (by kernel_rfl) (by kernel_rfl)
      replace hf := hf.more ht5
      obtain ⟨ad6, hl6⟩ := Ow.ce (d := cProd) o4 zProd hc5.1 hc5.2
      exact d_val (R := fun ρ w v => ∃ ad6, .pointer (some (ad6.add (a2.toNat * 27))) = v ∧ Ce ρ w 4 va2 ((([] : List Prod) ++ a0.ps).length) ad6 (a2.toNat * 27) (cProd.enc (gl zProd (([] : List Prod) ++ a0.ps) a2))) hw (wn rfl) (r_idx Try.underlying26 sz78 hf rfl hl6.at_ rfl hc5.1 hc5.2) rfl ⟨_, rfl, hl6⟩ hK
    · intro c ρ w a hs hw hG hf hd K hK
      obtain ⟨o1, o2, o3, o4⟩ := hG
      obtain ⟨_, ht6, ⟨ad6, rfl, hl6⟩⟩ := hd 6 (by kernel_rfl) (by kernel_rfl)
      replace hf := hf.more ht6
      exact d_val (R := fun ρ w v => .agg (cProd.enc (gl zProd (([] : List Prod) ++ a0.ps) a2)).toArray = v) hw (wn rfl) (r_load_agg ty78 hf rfl hl6.co.cl (cProd.len _)) rfl rfl hK
    · intro c ρ w a hs hw hG hf hd K hK
      obtain ⟨o1, o2, o3, o4⟩ := hG
      refine d_ex (R := fun ρ w v => ∃ g7, .pointer (some ((⟨g7, 0, none⟩ : Addr).add 0)) = v ∧ (c ≤ 0 → Va ρ w 7 g7 78 (cProd.enc zProd)) ∧ (0 < c → Va ρ w 7 g7 78 (cProd.enc (gl zProd (([] : List Prod) ++ a0.ps) a1)))) hw (wn rfl) (r_alloc (cs := cProd.enc zProd) 7 ze78 rfl hw) rfl (fun v w' hΦ => ?_) hK
      obtain ⟨g7, ρ, rfl, hw, hE, o7⟩ := hΦ
      exact ⟨_, hw, hE, _, rfl, fun _ => o7, fun hc => absurd (hs 0 (by decide) (by kernel_rfl)) (Nat.not_le_of_lt hc)⟩
    · intro c ρ w a hs hw hG hf hd K hK
      obtain ⟨o1, o2, o3, o4⟩ := hG
      refine d_ex (R := fun ρ w v => ∃ g8, .pointer (some ((⟨g8, 0, none⟩ : Addr).add 0)) = v ∧ Va ρ w 8 g8 78 (cProd.enc zProd)) hw (wn rfl) (r_alloc (cs := cProd.enc zProd) 8 ze78 rfl hw) rfl (fun v w' hΦ => ?_) hK
      obtain ⟨g8, ρ, rfl, hw, hE, o8⟩ := hΦ
      exact ⟨_, hw, hE, _, rfl, o8⟩
    · intro ρ w a S hw hG hf hS hdep hSi K hK
      obtain ⟨o1, o2, o3, o4⟩ := hG
      have hfL := hf
      obtain ⟨_, ht3, rfl⟩ := hS 3 (by decide) (hdep 3 (by kernel_rfl)) (by kernel_rfl)
      replace hf := hf.more ht3
      obtain ⟨_, ht8, g7, rfl, hx8, hy8⟩ := hS 8 (by decide) (hdep 8 (by kernel_rfl)) (by kernel_rfl)
      have o7 := hx8 (by decide)
      replace hf := hf.more ht8
      refine m_skip (Γ := fun c ρ w => Va ρ w 1 g1 28 ([.int .i64 a0.p, .int .i64 a0.n, .int .i64 a0.m, .int .i64 a0.k, va0]) ∧ Va ρ w 2 g2 28 ([.int .i64 0, .int .i64 0, .int .i64 0, .int .i64 0, (.slice none 0 0)]) ∧ Ow (kf cProd) 78 ρ w w0.heap.size 3 (.slice none 0 0) ([] : List Prod) ∧ Ow (kf cProd) 78 ρ w w0.heap.size 4 va2 (([] : List Prod) ++ a0.ps)) (Rl := [fun c ρ w v => va2 = v, fun c ρ w v => .int .i64 a1 = v, fun c ρ w v => ∃ ad4, .pointer (some (ad4.add (a1.toNat * 27))) = v ∧ Ce ρ w 4 va2 ((([] : List Prod) ++ a0.ps).length) ad4 (a1.toNat * 27) (cProd.enc (gl zProd (([] : List Prod) ++ a0.ps) a1)), fun c ρ w v => .agg (cProd.enc (gl zProd (([] : List Prod) ++ a0.ps) a1)).toArray = v, fun c ρ w v => va2 = v, fun c ρ w v => .int .i64 a2 = v, fun c ρ w v => ∃ ad6, .pointer (some (ad6.add (a2.toNat * 27))) = v ∧ Ce ρ w 4 va2 ((([] : List Prod) ++ a0.ps).length) ad6 (a2.toNat * 27) (cProd.enc (gl zProd (([] : List Prod) ++ a0.ps) a2)), fun c ρ w v => .agg (cProd.enc (gl zProd (([] : List Prod) ++ a0.ps) a2)).toArray = v, fun c ρ w v => ∃ g7, .pointer (some ((⟨g7, 0, none⟩ : Addr).add 0)) = v ∧ (c ≤ 0 → Va ρ w 7 g7 78 (cProd.enc zProd)) ∧ (0 < c → Va ρ w 7 g7 78 (cProd.enc (gl zProd (([] : List Prod) ++ a0.ps) a1))), fun c ρ w v => ∃ g8, .pointer (some ((⟨g8, 0, none⟩ : Addr).add 0)) = v ∧ Va ρ w 8 g8 78 (cProd.enc zProd), fun _ _ _ _ => True]) hfL hS (by kernel_rfl) rfl (wn rfl) (r_store_w (cs' := cProd.enc (gl zProd (([] : List Prod) ++ a0.ps) a1)) hw o7 (by decide) ty78 (cProd.len _) (cProd.len _) (cProd.one _) hf rfl rfl rfl) (fun w' hΦ => ?_) hK
      obtain ⟨hw, hA, o7⟩ := hΦ
      replace o1 := o1.adv hA (by decide)
      replace o2 := o2.adv hA (by decide)
      replace o3 := o3.adv hA (by decide)
      replace o4 := o4.adv hA (by decide)
      refine ⟨_, hw, ⟨o1, o2, o3, o4⟩, ?_⟩
      · exact PassL.cons (fun h => h) <| PassL.cons (fun h => h) <| PassL.cons (fun h => by obtain ⟨_, ht, ad4, h, hl4⟩ := h; exact ⟨_, ht, _, h, hl4.adv hA (by decide)⟩) <| PassL.cons (fun h => h) <| PassL.cons (fun h => h) <| PassL.cons (fun h => h) <| PassL.cons (fun h => by obtain ⟨_, ht, ad6, h, hl6⟩ := h; exact ⟨_, ht, _, h, hl6.adv hA (by decide)⟩) <| PassL.cons (fun h => h) <| PassL.cons (fun _ => ⟨_, ht8, _, rfl, fun h => absurd h (by decide), fun _ => o7⟩) <| PassL.cons (fun h => by obtain ⟨_, ht, g8, h, o8⟩ := h; exact ⟨_, ht, _, h, o8.adv hA (by decide)⟩) <| PassL.here <| PassL.nil
  · intro ρ w a hw hG hf hd
    obtain ⟨o1, o2, o3, o4⟩ := hG
    replace hf : Fr 70 a [(1, .int .i64 a1), (2, .int .i64 a2), (4, .int .i64 a4), (5, .pointer (some ((⟨g1, 0, none⟩ : Addr).add 0))), (10, .pointer (some ((⟨g2, 0, none⟩ : Addr).add 0))), (11, va2), (12, .int .i64 ((w64 (a3 + 1)).tmod 3)), (13, .int .i64 ((w64 (a3 + 2)).tmod 3))] := hf
    obtain ⟨_, ht, rfl⟩ := hd 7 (by decide) (by kernel_rfl)
    replace hf := hf.more ht
    obtain ⟨_, ht, g7, rfl, hx, hy⟩ := hd 8 (by decide) (by kernel_rfl)
    obtain o7 := hy (by decide)
    replace hf := hf.more ht
    obtain ⟨_, ht, ⟨g8, rfl, o8⟩⟩ := hd 9 (by decide) (by kernel_rfl)
    replace hf := hf.more ht
    refine st_skip hf rfl rfl (r_store_w (cs' := cProd.enc (gl zProd (([] : List Prod) ++ a0.ps) a2)) hw o8 (by decide) ty78 (cProd.len _) (cProd.len _) (cProd.one _) hf rfl rfl rfl) fun a w hf hΦ => ?_
    obtain ⟨hw, hA, o8⟩ := hΦ
    replace o1 := o1.adv hA (by decide)
    replace o2 := o2.adv hA (by decide)
    replace o3 := o3.adv hA (by decide)
    replace o4 := o4.adv hA (by decide)
    replace o7 := o7.adv hA (by decide)
    refine c_nt ?_
    refine c_seq ?_
    obtain ⟨x7, hx8, hF⟩ := of_bind hF
    obtain ⟨x9, hx10, hF⟩ := of_bind hF
    obtain ⟨x11, hx12, hF⟩ := of_bind hF
    obtain ⟨x13, hx14, hF⟩ := of_bind hF
    replace hf : Fr 70 a [(1, .int .i64 a1), (2, .int .i64 a2), (4, .int .i64 a4), (5, .pointer (some ((⟨g1, 0, none⟩ : Addr).add 0))), (10, .pointer (some ((⟨g2, 0, none⟩ : Addr).add 0))), (11, va2), (12, .int .i64 ((w64 (a3 + 1)).tmod 3)), (13, .int .i64 ((w64 (a3 + 2)).tmod 3)), (14, .pointer (some ((⟨g7, 0, none⟩ : Addr).add 0))), (15, .pointer (some ((⟨g8, 0, none⟩ : Addr).add 0)))] := hf.sub ⟨rfl, rfl, rfl, rfl, rfl, rfl, rfl, rfl, rfl, rfl, trivial⟩
    refine c_drawL (h := 15) mixed (by kernel_rfl) (by kernel_rfl) (fun ρ w => Va ρ w 1 g1 28 ([.int .i64 a0.p, .int .i64 a0.n, .int .i64 a0.m, .int .i64 a0.k, va0]) ∧ Va ρ w 2 g2 28 ([.int .i64 0, .int .i64 0, .int .i64 0, .int .i64 0, (.slice none 0 0)]) ∧ Ow (kf cProd) 78 ρ w w0.heap.size 3 (.slice none 0 0) ([] : List Prod) ∧ Ow (kf cProd) 78 ρ w w0.heap.size 4 va2 (([] : List Prod) ++ a0.ps) ∧ Va ρ w 7 g7 78 (cProd.enc (gl zProd (([] : List Prod) ++ a0.ps) a1)) ∧ Va ρ w 8 g8 78 (cProd.enc (gl zProd (([] : List Prod) ++ a0.ps) a2))) ?_ [fun ρ w v => va2 = v, fun ρ w v => .int .i64 a1 = v, fun ρ w v => .agg (cProd.enc (gl zProd (([] : List Prod) ++ a0.ps) a1)).toArray = v, fun ρ w v => .int .i64 ((w64 (a3 + 1)).tmod 3) = v, fun ρ w v => .pointer (some ((⟨g1, 0, none⟩ : Addr).add (0 + 0))) = v, fun ρ w v => .int .i64 a0.p = v, fun ρ w v => .agg (cProd.enc (gl zProd (([] : List Prod) ++ a0.ps) a1)).toArray = v, fun ρ w v => .int .i64 ((w64 (a3 + 1)).tmod 3) = v, fun ρ w v => .agg (cForm.enc x7).toArray = v, fun ρ w v => .agg (cProd.enc (gl zProd (([] : List Prod) ++ a0.ps) a2)).toArray = v, fun ρ w v => .int .i64 ((w64 (a3 + 1)).tmod 3) = v, fun ρ w v => .agg (cForm.enc x9).toArray = v, fun ρ w v => .int .i64 a4 = v, fun ρ w v => .agg (cForm.enc x11).toArray = v, fun ρ w v => .agg (cProd.enc x13).toArray = v] ?_ hw ⟨o1, o2, o3, o4, o7, o8⟩ hf ?_ ?_
    · intro ρ w ρ' w' hE hG
      obtain ⟨o1, o2, o3, o4, o7, o8⟩ := hG
      exact ⟨o1.ext hE, o2.ext hE, o3.ext hE, o4.ext hE, o7.ext hE, o8.ext hE⟩
    · exact LastsL.cons (fun _ _ _ _ _ _ h => h) <| LastsL.cons (fun _ _ _ _ _ _ h => h) <| LastsL.cons (fun _ _ _ _ _ _ h => h) <| LastsL.cons (fun _ _ _ _ _ _ h => h) <| LastsL.cons (fun _ _ _ _ _ _ h => h) <| LastsL.cons (fun _ _ _ _ _ _ h => h) <| LastsL.cons (fun _ _ _ _ _ _ h => h) <| LastsL.cons (fun _ _ _ _ _ _ h => h) <| LastsL.cons (fun _ _ _ _ _ _ h => h) <| LastsL.cons (fun _ _ _ _ _ _ h => h) <| LastsL.cons (fun _ _ _ _ _ _ h => h) <| LastsL.cons (fun _ _ _ _ _ _ h => h) <| LastsL.cons (fun _ _ _ _ _ _ h => h) <| LastsL.cons (fun _ _ _ _ _ _ h => h) <| LastsL.cons (fun _ _ _ _ _ _ h => h) <| LastsL.nil
    · refine StepsB.cons ?_ <| StepsB.cons ?_ <| StepsB.cons ?_ <| StepsB.cons ?_ <| StepsB.cons ?_ <| StepsB.cons ?_ <| StepsB.cons ?_ <| StepsB.cons ?_ <| StepsB.cons ?_ <| StepsB.cons ?_ <| StepsB.cons ?_ <| StepsB.cons ?_ <| StepsB.cons ?_ <| StepsB.cons ?_ <| StepsB.cons ?_ <| StepsB.nil
      · intro ρ w a hw hG hf hd K hK
        obtain ⟨o1, o2, o3, o4, o7, o8⟩ := hG
        exact d_val (R := fun ρ w v => va2 = v) hw (wn rfl) (r_move hf rfl) rfl rfl hK
      · intro ρ w a hw hG hf hd K hK
        obtain ⟨o1, o2, o3, o4, o7, o8⟩ := hG
        exact d_val (R := fun ρ w v => .int .i64 a1 = v) hw (wn rfl) (r_move hf rfl) rfl rfl hK
      · intro ρ w a hw hG hf hd K hK
        obtain ⟨o1, o2, o3, o4, o7, o8⟩ := hG
        exact d_val (R := fun ρ w v => .agg (cProd.enc (gl zProd (([] : List Prod) ++ a0.ps) a1)).toArray = v) hw (wn rfl) (r_load_agg ty78 hf rfl o7.cl (cProd.len _)) rfl rfl hK
      · intro ρ w a hw hG hf hd K hK
        obtain ⟨o1, o2, o3, o4, o7, o8⟩ := hG
        exact d_val (R := fun ρ w v => .int .i64 ((w64 (a3 + 1)).tmod 3) = v) hw (wn rfl) (r_move hf rfl) rfl rfl hK
      · intro ρ w a hw hG hf hd K hK
        obtain ⟨o1, o2, o3, o4, o7, o8⟩ := hG
        exact d_val (R := fun ρ w v => .pointer (some ((⟨g1, 0, none⟩ : Addr).add (0 + 0))) = v) hw (wn rfl) (r_fa fa28_0 hf rfl) rfl rfl hK
      · intro ρ w a hw hG hf hd K hK
        obtain ⟨o1, o2, o3, o4, o7, o8⟩ := hG
        obtain ⟨_, ht, rfl⟩ := hd 4 (by kernel_rfl)
        replace hf := hf.more ht
        exact d_val (R := fun ρ w v => .int .i64 a0.p = v) hw (wn rfl) (r_load_cell ty2 hf rfl (o1.cl.at_ 0 _ rfl)) rfl rfl hK
      · intro ρ w a hw hG hf hd K hK
        obtain ⟨o1, o2, o3, o4, o7, o8⟩ := hG
        exact d_val (R := fun ρ w v => .agg (cProd.enc (gl zProd (([] : List Prod) ++ a0.ps) a1)).toArray = v) hw (wn rfl) (r_load_agg ty78 hf rfl o7.cl (cProd.len _)) rfl rfl hK
      · intro ρ w a hw hG hf hd K hK
        obtain ⟨o1, o2, o3, o4, o7, o8⟩ := hG
        exact d_val (R := fun ρ w v => .int .i64 ((w64 (a3 + 1)).tmod 3) = v) hw (wn rfl) (r_move hf rfl) rfl rfl hK
      · intro ρ w a hw hG hf hd K hK
        obtain ⟨o1, o2, o3, o4, o7, o8⟩ := hG
        obtain ⟨_, ht, rfl⟩ := hd 6 (by kernel_rfl)
        replace hf := hf.more ht
        obtain ⟨_, ht, rfl⟩ := hd 7 (by kernel_rfl)
        replace hf := hf.more ht
        refine d_call (R := fun ρ w v => .agg (cForm.enc x7).toArray = v) hw (wn rfl) (r_fn en84 hf rfl) (spec_l03Factor_ok  hx8) rfl (fun v w' hΦ => ?_) hK
        obtain ⟨hb, hΦ⟩ := hΦ
        obtain rfl := hΦ
        have hE := Ext.new (ρ := ρ) 9 hb
        exact ⟨_, hw.new 9 hb, hE, rfl⟩
      · intro ρ w a hw hG hf hd K hK
        obtain ⟨o1, o2, o3, o4, o7, o8⟩ := hG
        exact d_val (R := fun ρ w v => .agg (cProd.enc (gl zProd (([] : List Prod) ++ a0.ps) a2)).toArray = v) hw (wn rfl) (r_load_agg ty78 hf rfl o8.cl (cProd.len _)) rfl rfl hK
      · intro ρ w a hw hG hf hd K hK
        obtain ⟨o1, o2, o3, o4, o7, o8⟩ := hG
        exact d_val (R := fun ρ w v => .int .i64 ((w64 (a3 + 1)).tmod 3) = v) hw (wn rfl) (r_move hf rfl) rfl rfl hK
      · intro ρ w a hw hG hf hd K hK
        obtain ⟨o1, o2, o3, o4, o7, o8⟩ := hG
        obtain ⟨_, ht, rfl⟩ := hd 9 (by kernel_rfl)
        replace hf := hf.more ht
        obtain ⟨_, ht, rfl⟩ := hd 10 (by kernel_rfl)
        replace hf := hf.more ht
        refine d_call (R := fun ρ w v => .agg (cForm.enc x9).toArray = v) hw (wn rfl) (r_fn en84 hf rfl) (spec_l03Factor_ok  hx10) rfl (fun v w' hΦ => ?_) hK
        obtain ⟨hb, hΦ⟩ := hΦ
        obtain rfl := hΦ
        have hE := Ext.new (ρ := ρ) 10 hb
        exact ⟨_, hw.new 10 hb, hE, rfl⟩
      · intro ρ w a hw hG hf hd K hK
        obtain ⟨o1, o2, o3, o4, o7, o8⟩ := hG
        exact d_val (R := fun ρ w v => .int .i64 a4 = v) hw (wn rfl) (r_move hf rfl) rfl rfl hK
      · intro ρ w a hw hG hf hd K hK
        obtain ⟨o1, o2, o3, o4, o7, o8⟩ := hG
        obtain ⟨_, ht, rfl⟩ := hd 5 (by kernel_rfl)
        replace hf := hf.more ht
        obtain ⟨_, ht, rfl⟩ := hd 8 (by kernel_rfl)
        replace hf := hf.more ht
        obtain ⟨_, ht, rfl⟩ := hd 11 (by kernel_rfl)
        replace hf := hf.more ht
        obtain ⟨_, ht, rfl⟩ := hd 12 (by kernel_rfl)
        replace hf := hf.more ht
        refine d_call (R := fun ρ w v => .agg (cForm.enc x11).toArray = v) hw (wn rfl) (r_fn en72 hf rfl) (spec_l01Add_ok  hx12) rfl (fun v w' hΦ => ?_) hK
        obtain ⟨hb, hΦ⟩ := hΦ
        obtain rfl := hΦ
        have hE := Ext.new (ρ := ρ) 11 hb
        exact ⟨_, hw.new 11 hb, hE, rfl⟩
      · intro ρ w a hw hG hf hd K hK
        obtain ⟨o1, o2, o3, o4, o7, o8⟩ := hG
        obtain ⟨_, ht, rfl⟩ := hd 2 (by kernel_rfl)
        replace hf := hf.more ht
        obtain ⟨_, ht, rfl⟩ := hd 3 (by kernel_rfl)
        replace hf := hf.more ht
        obtain ⟨_, ht, rfl⟩ := hd 13 (by kernel_rfl)
        replace hf := hf.more ht
        refine d_call (R := fun ρ w v => .agg (cProd.enc x13).toArray = v) hw (wn rfl) (r_fn en71 hf rfl) (spec_l03With_ok  hx14) rfl (fun v w' hΦ => ?_) hK
        obtain ⟨hb, hΦ⟩ := hΦ
        obtain rfl := hΦ
        have hE := Ext.new (ρ := ρ) 12 hb
        exact ⟨_, hw.new 12 hb, hE, rfl⟩
    · intro ρ w a hw hG hf hd
      obtain ⟨o1, o2, o3, o4, o7, o8⟩ := hG
      replace hf : Fr 70 a [(1, .int .i64 a1), (2, .int .i64 a2), (4, .int .i64 a4), (5, .pointer (some ((⟨g1, 0, none⟩ : Addr).add 0))), (10, .pointer (some ((⟨g2, 0, none⟩ : Addr).add 0))), (11, va2), (12, .int .i64 ((w64 (a3 + 1)).tmod 3)), (13, .int .i64 ((w64 (a3 + 2)).tmod 3)), (14, .pointer (some ((⟨g7, 0, none⟩ : Addr).add 0))), (15, .pointer (some ((⟨g8, 0, none⟩ : Addr).add 0)))] := hf
      obtain ⟨_, ht, rfl⟩ := hd 0 (by decide)
      replace hf := hf.more ht
      obtain ⟨_, ht, rfl⟩ := hd 1 (by decide)
      replace hf := hf.more ht
      obtain ⟨_, ht, rfl⟩ := hd 14 (by decide)
      replace hf := hf.more ht
      obtain ⟨ad15, hl15⟩ := Ow.ce (d := cProd) o4 zProd hc3.1 hc3.2
      refine st hf rfl rfl (by decide) (r_idx Try.underlying26 sz78 hf rfl hl15.at_ rfl hc3.1 hc3.2) fun a hf => ?_
      refine st_skip hf rfl rfl (r_store_ec (b := x13) zProd hw (by decide) o4 hc3.1 hc3.2 (Lens.id _) hl15.at_ ty78 (by first | rfl | exact Nat.add_assoc _ _ _ | (simp only [Nat.add_assoc]; rfl)) hf rfl rfl rfl) fun a w hf hΦ => ?_
      obtain ⟨hw, hA, o4⟩ := hΦ
      replace o1 := o1.adv hA (by decide)
      replace o2 := o2.adv hA (by decide)
      replace o3 := o3.adv hA (by decide)
      replace o7 := o7.adv hA (by decide)
      replace o8 := o8.adv hA (by decide)
      refine c_nt ?_
      refine c_seq ?_
      obtain ⟨x16, hx17, hF⟩ := of_bind hF
      obtain ⟨x18, hx19, hF⟩ := of_bind hF
      obtain ⟨x20, hx21, hF⟩ := of_bind hF
      obtain ⟨x22, hx23, hF⟩ := of_bind hF
      replace hf : Fr 70 a [(2, .int .i64 a2), (4, .int .i64 a4), (5, .pointer (some ((⟨g1, 0, none⟩ : Addr).add 0))), (10, .pointer (some ((⟨g2, 0, none⟩ : Addr).add 0))), (11, va2), (13, .int .i64 ((w64 (a3 + 2)).tmod 3)), (14, .pointer (some ((⟨g7, 0, none⟩ : Addr).add 0))), (15, .pointer (some ((⟨g8, 0, none⟩ : Addr).add 0)))] := hf.sub ⟨rfl, rfl, rfl, rfl, rfl, rfl, rfl, rfl, trivial⟩
      refine c_drawL (h := 16) mixed (by kernel_rfl) (by kernel_rfl) (fun ρ w => Va ρ w 1 g1 28 ([.int .i64 a0.p, .int .i64 a0.n, .int .i64 a0.m, .int .i64 a0.k, va0]) ∧ Va ρ w 2 g2 28 ([.int .i64 0, .int .i64 0, .int .i64 0, .int .i64 0, (.slice none 0 0)]) ∧ Ow (kf cProd) 78 ρ w w0.heap.size 3 (.slice none 0 0) ([] : List Prod) ∧ Ow (kf cProd) 78 ρ w w0.heap.size 4 va2 ((([] : List Prod) ++ a0.ps).set a1.toNat x13) ∧ Va ρ w 7 g7 78 (cProd.enc (gl zProd (([] : List Prod) ++ a0.ps) a1)) ∧ Va ρ w 8 g8 78 (cProd.enc (gl zProd (([] : List Prod) ++ a0.ps) a2))) ?_ [fun ρ w v => va2 = v, fun ρ w v => .int .i64 a2 = v, fun ρ w v => .agg (cProd.enc (gl zProd (([] : List Prod) ++ a0.ps) a2)).toArray = v, fun ρ w v => .int .i64 ((w64 (a3 + 2)).tmod 3) = v, fun ρ w v => .pointer (some ((⟨g1, 0, none⟩ : Addr).add (0 + 0))) = v, fun ρ w v => .int .i64 a0.p = v, fun ρ w v => .agg (cProd.enc (gl zProd (([] : List Prod) ++ a0.ps) a2)).toArray = v, fun ρ w v => .int .i64 ((w64 (a3 + 2)).tmod 3) = v, fun ρ w v => .agg (cForm.enc x16).toArray = v, fun ρ w v => .agg (cProd.enc (gl zProd (([] : List Prod) ++ a0.ps) a1)).toArray = v, fun ρ w v => .int .i64 ((w64 (a3 + 2)).tmod 3) = v, fun ρ w v => .agg (cForm.enc x18).toArray = v, fun ρ w v => .int .i64 a4 = v, fun ρ w v => .int .i64 (w64 (0 - a4)) = v, fun ρ w v => .agg (cForm.enc x20).toArray = v, fun ρ w v => .agg (cProd.enc x22).toArray = v] ?_ hw ⟨o1, o2, o3, o4, o7, o8⟩ hf ?_ ?_
      · intro ρ w ρ' w' hE hG
        obtain ⟨o1, o2, o3, o4, o7, o8⟩ := hG
        exact ⟨o1.ext hE, o2.ext hE, o3.ext hE, o4.ext hE, o7.ext hE, o8.ext hE⟩
      · exact LastsL.cons (fun _ _ _ _ _ _ h => h) <| LastsL.cons (fun _ _ _ _ _ _ h => h) <| LastsL.cons (fun _ _ _ _ _ _ h => h) <| LastsL.cons (fun _ _ _ _ _ _ h => h) <| LastsL.cons (fun _ _ _ _ _ _ h => h) <| LastsL.cons (fun _ _ _ _ _ _ h => h) <| LastsL.cons (fun _ _ _ _ _ _ h => h) <| LastsL.cons (fun _ _ _ _ _ _ h => h) <| LastsL.cons (fun _ _ _ _ _ _ h => h) <| LastsL.cons (fun _ _ _ _ _ _ h => h) <| LastsL.cons (fun _ _ _ _ _ _ h => h) <| LastsL.cons (fun _ _ _ _ _ _ h => h) <| LastsL.cons (fun _ _ _ _ _ _ h => h) <| LastsL.cons (fun _ _ _ _ _ _ h => h) <| LastsL.cons (fun _ _ _ _ _ _ h => h) <| LastsL.cons (fun _ _ _ _ _ _ h => h) <| LastsL.nil
      · refine StepsB.cons ?_ <| StepsB.cons ?_ <| StepsB.cons ?_ <| StepsB.cons ?_ <| StepsB.cons ?_ <| StepsB.cons ?_ <| StepsB.cons ?_ <| StepsB.cons ?_ <| StepsB.cons ?_ <| StepsB.cons ?_ <| StepsB.cons ?_ <| StepsB.cons ?_ <| StepsB.cons ?_ <| StepsB.cons ?_ <| StepsB.cons ?_ <| StepsB.cons ?_ <| StepsB.nil
        · intro ρ w a hw hG hf hd K hK
          obtain ⟨o1, o2, o3, o4, o7, o8⟩ := hG
          exact d_val (R := fun ρ w v => va2 = v) hw (wn rfl) (r_move hf rfl) rfl rfl hK
        · intro ρ w a hw hG hf hd K hK
          obtain ⟨o1, o2, o3, o4, o7, o8⟩ := hG
          exact d_val (R := fun ρ w v => .int .i64 a2 = v) hw (wn rfl) (r_move hf rfl) rfl rfl hK
        · intro ρ w a hw hG hf hd K hK
          obtain ⟨o1, o2, o3, o4, o7, o8⟩ := hG
          exact d_val (R := fun ρ w v => .agg (cProd.enc (gl zProd (([] : List Prod) ++ a0.ps) a2)).toArray = v) hw (wn rfl) (r_load_agg ty78 hf rfl o8.cl (cProd.len _)) rfl rfl hK
        · intro ρ w a hw hG hf hd K hK
          obtain ⟨o1, o2, o3, o4, o7, o8⟩ := hG
          exact d_val (R := fun ρ w v => .int .i64 ((w64 (a3 + 2)).tmod 3) = v) hw (wn rfl) (r_move hf rfl) rfl rfl hK
        · intro ρ w a hw hG hf hd K hK
          obtain ⟨o1, o2, o3, o4, o7, o8⟩ := hG
          exact d_val (R := fun ρ w v => .pointer (some ((⟨g1, 0, none⟩ : Addr).add (0 + 0))) = v) hw (wn rfl) (r_fa fa28_0 hf rfl) rfl rfl hK
        · intro ρ w a hw hG hf hd K hK
          obtain ⟨o1, o2, o3, o4, o7, o8⟩ := hG
          obtain ⟨_, ht, rfl⟩ := hd 4 (by kernel_rfl)
          replace hf := hf.more ht
          exact d_val (R := fun ρ w v => .int .i64 a0.p = v) hw (wn rfl) (r_load_cell ty2 hf rfl (o1.cl.at_ 0 _ rfl)) rfl rfl hK
        · intro ρ w a hw hG hf hd K hK
          obtain ⟨o1, o2, o3, o4, o7, o8⟩ := hG
          exact d_val (R := fun ρ w v => .agg (cProd.enc (gl zProd (([] : List Prod) ++ a0.ps) a2)).toArray = v) hw (wn rfl) (r_load_agg ty78 hf rfl o8.cl (cProd.len _)) rfl rfl hK
        · intro ρ w a hw hG hf hd K hK
          obtain ⟨o1, o2, o3, o4, o7, o8⟩ := hG
          exact d_val (R := fun ρ w v => .int .i64 ((w64 (a3 + 2)).tmod 3) = v) hw (wn rfl) (r_move hf rfl) rfl rfl hK
        · intro ρ w a hw hG hf hd K hK
          obtain ⟨o1, o2, o3, o4, o7, o8⟩ := hG
          obtain ⟨_, ht, rfl⟩ := hd 6 (by kernel_rfl)
          replace hf := hf.more ht
          obtain ⟨_, ht, rfl⟩ := hd 7 (by kernel_rfl)
          replace hf := hf.more ht
          refine d_call (R := fun ρ w v => .agg (cForm.enc x16).toArray = v) hw (wn rfl) (r_fn en84 hf rfl) (spec_l03Factor_ok  hx17) rfl (fun v w' hΦ => ?_) hK
          obtain ⟨hb, hΦ⟩ := hΦ
          obtain rfl := hΦ
          have hE := Ext.new (ρ := ρ) 14 hb
          exact ⟨_, hw.new 14 hb, hE, rfl⟩
        · intro ρ w a hw hG hf hd K hK
          obtain ⟨o1, o2, o3, o4, o7, o8⟩ := hG
          exact d_val (R := fun ρ w v => .agg (cProd.enc (gl zProd (([] : List Prod) ++ a0.ps) a1)).toArray = v) hw (wn rfl) (r_load_agg ty78 hf rfl o7.cl (cProd.len _)) rfl rfl hK
        · intro ρ w a hw hG hf hd K hK
          obtain ⟨o1, o2, o3, o4, o7, o8⟩ := hG
          exact d_val (R := fun ρ w v => .int .i64 ((w64 (a3 + 2)).tmod 3) = v) hw (wn rfl) (r_move hf rfl) rfl rfl hK
        · intro ρ w a hw hG hf hd K hK
          obtain ⟨o1, o2, o3, o4, o7, o8⟩ := hG
          obtain ⟨_, ht, rfl⟩ := hd 9 (by kernel_rfl)
          replace hf := hf.more ht
          obtain ⟨_, ht, rfl⟩ := hd 10 (by kernel_rfl)
          replace hf := hf.more ht
          refine d_call (R := fun ρ w v => .agg (cForm.enc x18).toArray = v) hw (wn rfl) (r_fn en84 hf rfl) (spec_l03Factor_ok  hx19) rfl (fun v w' hΦ => ?_) hK
          obtain ⟨hb, hΦ⟩ := hΦ
          obtain rfl := hΦ
          have hE := Ext.new (ρ := ρ) 15 hb
          exact ⟨_, hw.new 15 hb, hE, rfl⟩
        · intro ρ w a hw hG hf hd K hK
          obtain ⟨o1, o2, o3, o4, o7, o8⟩ := hG
          exact d_val (R := fun ρ w v => .int .i64 a4 = v) hw (wn rfl) (r_move hf rfl) rfl rfl hK
        · intro ρ w a hw hG hf hd K hK
          obtain ⟨o1, o2, o3, o4, o7, o8⟩ := hG
          obtain ⟨_, ht, rfl⟩ := hd 12 (by kernel_rfl)
          replace hf := hf.more ht
          exact d_val (R := fun ρ w v => .int .i64 (w64 (0 - a4)) = v) hw (wn rfl) (r_neg hf rfl) rfl rfl hK
        · intro ρ w a hw hG hf hd K hK
          obtain ⟨o1, o2, o3, o4, o7, o8⟩ := hG
          obtain ⟨_, ht, rfl⟩ := hd 5 (by kernel_rfl)
          replace hf := hf.more ht
          obtain ⟨_, ht, rfl⟩ := hd 8 (by kernel_rfl)
          replace hf := hf.more ht
          obtain ⟨_, ht, rfl⟩ := hd 11 (by kernel_rfl)
          replace hf := hf.more ht
          obtain ⟨_, ht, rfl⟩ := hd 13 (by kernel_rfl)
          replace hf := hf.more ht
          refine d_call (R := fun ρ w v => .agg (cForm.enc x20).toArray = v) hw (wn rfl) (r_fn en72 hf rfl) (spec_l01Add_ok  hx21) rfl (fun v w' hΦ => ?_) hK
          obtain ⟨hb, hΦ⟩ := hΦ
          obtain rfl := hΦ
          have hE := Ext.new (ρ := ρ) 16 hb
          exact ⟨_, hw.new 16 hb, hE, rfl⟩
        · intro ρ w a hw hG hf hd K hK
          obtain ⟨o1, o2, o3, o4, o7, o8⟩ := hG
          obtain ⟨_, ht, rfl⟩ := hd 2 (by kernel_rfl)
          replace hf := hf.more ht
          obtain ⟨_, ht, rfl⟩ := hd 3 (by kernel_rfl)
          replace hf := hf.more ht
          obtain ⟨_, ht, rfl⟩ := hd 14 (by kernel_rfl)
          replace hf := hf.more ht
          refine d_call (R := fun ρ w v => .agg (cProd.enc x22).toArray = v) hw (wn rfl) (r_fn en71 hf rfl) (spec_l03With_ok  hx23) rfl (fun v w' hΦ => ?_) hK
          obtain ⟨hb, hΦ⟩ := hΦ
          obtain rfl := hΦ
          have hE := Ext.new (ρ := ρ) 17 hb
          exact ⟨_, hw.new 17 hb, hE, rfl⟩
      · intro ρ w a hw hG hf hd
        obtain ⟨o1, o2, o3, o4, o7, o8⟩ := hG
        replace hf : Fr 70 a [(2, .int .i64 a2), (4, .int .i64 a4), (5, .pointer (some ((⟨g1, 0, none⟩ : Addr).add 0))), (10, .pointer (some ((⟨g2, 0, none⟩ : Addr).add 0))), (11, va2), (13, .int .i64 ((w64 (a3 + 2)).tmod 3)), (14, .pointer (some ((⟨g7, 0, none⟩ : Addr).add 0))), (15, .pointer (some ((⟨g8, 0, none⟩ : Addr).add 0)))] := hf
        obtain ⟨_, ht, rfl⟩ := hd 0 (by decide)
        replace hf := hf.more ht
        obtain ⟨_, ht, rfl⟩ := hd 1 (by decide)
        replace hf := hf.more ht
        obtain ⟨_, ht, rfl⟩ := hd 15 (by decide)
        replace hf := hf.more ht
        obtain ⟨hc24, hF⟩ := of_guard hF
        obtain ⟨ad25, hl25⟩ := Ow.ce (d := cProd) o4 zProd hc24.1 hc24.2
        refine st hf rfl rfl (by decide) (r_idx Try.underlying26 sz78 hf rfl hl25.at_ rfl hc24.1 hc24.2) fun a hf => ?_
        refine st_skip hf rfl rfl (r_store_ec (b := x22) zProd hw (by decide) o4 hc24.1 hc24.2 (Lens.id _) hl25.at_ ty78 (by first | rfl | exact Nat.add_assoc _ _ _ | (simp only [Nat.add_assoc]; rfl)) hf rfl rfl rfl) fun a w hf hΦ => ?_
        obtain ⟨hw, hA, o4⟩ := hΦ
        replace o1 := o1.adv hA (by decide)
        replace o2 := o2.adv hA (by decide)
        replace o3 := o3.adv hA (by decide)
        replace o7 := o7.adv hA (by decide)
        replace o8 := o8.adv hA (by decide)
        refine c_nt ?_
        refine c_seq ?_
        refine c_region ?_
        refine st hf rfl rfl (by decide) (r_load_agg ty28 hf rfl o1.cl rfl) fun a hf => ?_
        refine st hf rfl rfl (by decide) (r_move hf rfl) fun a hf => ?_
        obtain ⟨x26, hx27, hF⟩ := of_bind hF
        refine st_fn 19 hw hf rfl rfl (by decide) (r_fn en73 hf rfl) (spec_l03Told_ok (a0 := a0) (h0.now hw) o4.ro hx27) fun a v w ρ hf hw hE hN hΦ => ?_
        obtain ⟨u28, rfl, hr29⟩ := hΦ
        replace o1 := o1.ext hE
        replace o2 := o2.ext hE
        replace o3 := o3.ext hE
        replace o4 := o4.ext hE
        replace o7 := o7.ext hE
        replace o8 := o8.ext hE
        have o19 := hN hr29
        refine st_skip hf rfl rfl (r_store_w (cs' := [.int .i64 x26.p, .int .i64 x26.n, .int .i64 x26.m, .int .i64 x26.k, u28]) hw o2 (by decide) ty28 rfl rfl (one_sch o19.ro.one) hf rfl rfl rfl) fun a w hf hΦ => ?_
        obtain ⟨hw, hA, o2⟩ := hΦ
        replace o1 := o1.adv hA (by decide)
        replace o3 := o3.adv hA (by decide)
        replace o4 := o4.adv hA (by decide)
        replace o7 := o7.adv hA (by decide)
        replace o8 := o8.adv hA (by decide)
        replace o19 := o19.adv hA (by decide)
        refine c_nt ?_
        refine c_retc ?_
        obtain rfl := Option.some.inj hF
        refine c_ret hf (res_cell Try.results89 ty28 hf rfl o2.cl rfl) ?_
        exact ⟨_, rfl, hw.below, ⟨_, rfl, o19.out⟩⟩
/-! f27 -/
noncomputable def spec_FlipProducts (a0 : Sch) (a1 : Int) (a2 : Int) (a3 : Int) (a4 : Int) : Option (Sch × Int) :=
  (spec_l01Is a0).bind fun x1 => if (!x1) = true then (some (((⟨0, 0, 0, 0, ([] : List Prod)⟩ : Sch), 1))) else (((spec_l03Numbers a0 ([a1, a2])).bind fun x6 => if (!x6) = true then (some true) else ((spec_l01In a3 0 2).bind fun x9 => if (!x9) = true then (some true) else ((spec_l01In a4 1 (w64 (a0.p - 1))).bind fun x12 => some (!x12)))).bind fun (s5 : Bool) => if s5 = true then (some (((⟨0, 0, 0, 0, ([] : List Prod)⟩ : Sch), 2))) else ((if (decide (a1 = a2)) = true then (some true) else (if 0 ≤ a1 ∧ a1 < (a0.ps.length : Int) then ((spec_l03Factor (gl zProd a0.ps a1) a3).bind fun x20 => if 0 ≤ a2 ∧ a2 < (a0.ps.length : Int) then ((spec_l03Factor (gl zProd a0.ps a2) a3).bind fun x24 => some (decide (x20 ≠ x24))) else none) else none)).bind fun (s16 : Bool) => if s16 = true then (some (((⟨0, 0, 0, 0, ([] : List Prod)⟩ : Sch), 5))) else ((spec_l03Flip a0 a1 a2 a3 a4).bind fun x27 => some ((x27, 0)))))
theorem spec_FlipProducts_ok {w0 : World} {a0 : Sch} {a1 : Int} {a2 : Int} {a3 : Int} {a4 : Int} {va0 : Value} (h0 : Ro (kf cProd) w0 va0 a0.ps) {r : Sch × Int} (hF : spec_FlipProducts a0 a1 a2 a3 a4 = some r) :
    Calls Try.prog 27 [.agg ([.int .i64 a0.p, .int .i64 a0.n, .int .i64 a0.m, .int .i64 a0.k, va0]).toArray, .int .i64 a1, .int .i64 a2, .int .i64 a3, .int .i64 a4].toArray w0 fun e w => ∃ v, e = .returned v ∧ Below w0.heap.size w0 w ∧ ∃ u0, .tuple #[.agg [.int .i64 r.1.p, .int .i64 r.1.n, .int .i64 r.1.m, .int .i64 r.1.k, u0].toArray, .int .i64 r.2] = v ∧ Fresh (kf cProd) 78 w0 w u0 r.1.ps := by
  refine calls_of (k := 66) Try.func27 rfl rfl (Nat.le_of_ble_eq_true rfl) fun a hf => ?_
  replace hf : Fr 66 a [(0, .agg ([.int .i64 a0.p, .int .i64 a0.n, .int .i64 a0.m, .int .i64 a0.k, va0]).toArray), (1, .int .i64 a1), (2, .int .i64 a2), (3, .int .i64 a3), (4, .int .i64 a4)] := hf
  refine c_start fun w ρ hw => ?_
  unfold spec_FlipProducts at hF
  refine c_seq ?_
  refine c_region ?_
  refine st_ex hf rfl rfl (by decide) (r_box (cs := [.int .i64 a0.p, .int .i64 a0.n, .int .i64 a0.m, .int .i64 a0.k, va0]) 1 hw hf rfl rfl) fun a v w hf hΦ => ?_
  obtain ⟨g1, ρ, rfl, hw, hE, o1⟩ := hΦ
  have o3 : Ow (kf cProd) 78 ρ w w0.heap.size 3 (.slice none 0 0) [] := Ow.nil _ _ _ _ _ _
  refine st_ex hf rfl rfl (by decide) (r_alloc (cs := [.int .i64 0, .int .i64 0, .int .i64 0, .int .i64 0, (.slice none 0 0)]) 2 ze28 rfl hw) fun a v w hf hΦ => ?_
  obtain ⟨g2, ρ, rfl, hw, hE, o2⟩ := hΦ
  replace o1 := o1.ext hE
  replace o3 := o3.ext hE
  refine st hf rfl rfl (by decide) (r_assign hf rfl) fun a hf => ?_
  refine c_nt ?_
  refine c_seq ?_
  refine c_block ?_
  refine c_seq ?_
  refine c_region ?_
  refine st hf rfl rfl (by decide) (r_load_agg ty28 hf rfl o1.cl rfl) fun a hf => ?_
  obtain ⟨x1, hx2, hF⟩ := of_bind hF
  refine st_fn 4 hw hf rfl rfl (by decide) (r_fn en69 hf rfl) (spec_l01Is_ok (a0 := a0) (h0.now hw) hx2) fun a v w ρ hf hw hE hN hΦ => ?_
  obtain rfl := hΦ
  replace o1 := o1.ext hE
  replace o3 := o3.ext hE
  replace o2 := o2.ext hE
  refine st hf rfl rfl (by decide) (r_not hf rfl) fun a hf => ?_
  refine st hf rfl rfl (by decide) (r_assign hf rfl) fun a hf => ?_
  refine c_nt ?_
  rcases of_ite hF with ⟨hb3, hF⟩ | ⟨hb3, hF⟩
  · refine c_ift hf rfl hb3 ?_
    refine c_seq ?_
    refine c_region ?_
    have o5 : Ow (kf cProd) 78 ρ w w0.heap.size 5 (.slice none 0 0) [] := Ow.nil _ _ _ _ _ _
    refine st hf rfl rfl (by decide) (r_build_struct (pl := [(0, 1), (1, 1), (2, 1), (3, 1), (4, 1)]) (vs := []) (res := ([.int .i64 0, .int .i64 0, .int .i64 0, .int .i64 0, (.slice none 0 0)]).toArray) Try.underlying28 (by kernel_rfl) ze28 hf rfl rfl rfl) fun a hf => ?_
    refine st_skip hf rfl rfl (r_store_w (cs' := [.int .i64 0, .int .i64 0, .int .i64 0, .int .i64 0, (.slice none 0 0)]) hw o2 (by decide) ty28 rfl rfl (one_sch o5.ro.one) hf rfl rfl rfl) fun a w hf hΦ => ?_
    obtain ⟨hw, hA, o2⟩ := hΦ
    replace o1 := o1.adv hA (by decide)
    replace o3 := o3.adv hA (by decide)
    replace o5 := o5.adv hA (by decide)
    refine st hf rfl rfl (by decide) (r_assign hf rfl) fun a hf => ?_
    refine c_nt ?_
    refine c_retc ?_
    obtain rfl := Option.some.inj hF
    refine r_block ?_
    refine r_then ?_
    refine c_ret hf (res_ct Try.results27 ty28 hf rfl o2.cl rfl rfl) ?_
    exact ⟨_, rfl, hw.below, ⟨_, rfl, o5.out⟩⟩
  · refine c_iff hf rfl hb3 ?_
    refine c_seq ?_
    obtain ⟨s5, hT4, hG4⟩ := of_bind hF
    clear hF
    refine c_meet (fun (s : Bool) a w => ∃ ρ, Wd w0 ρ w ∧ Fr 66 a [(1, .int .i64 a1), (2, .int .i64 a2), (3, .int .i64 a3), (4, .int .i64 a4), (5, .pointer (some ((⟨g1, 0, none⟩ : Addr).add 0))), (10, .pointer (some ((⟨g2, 0, none⟩ : Addr).add 0))), (17, .bool s)] ∧ Va ρ w 1 g1 28 ([.int .i64 a0.p, .int .i64 a0.n, .int .i64 a0.m, .int .i64 a0.k, va0]) ∧ Va ρ w 2 g2 28 ([.int .i64 0, .int .i64 0, .int .i64 0, .int .i64 0, (.slice none 0 0)]) ∧ Ow (kf cProd) 78 ρ w w0.heap.size 3 (.slice none 0 0) ([] : List Prod)) s5 ?_ ?_
    · have hF := hT4
      refine c_region ?_
      refine st hf rfl rfl (by decide) (r_load_agg ty28 hf rfl o1.cl rfl) fun a hf => ?_
      refine st hf rfl rfl (by decide) (r_move hf rfl) fun a hf => ?_
      refine st hf rfl rfl (by decide) (r_move hf rfl) fun a hf => ?_
      refine st_ex hf rfl rfl (by decide) (r_lit (d := fI64) (xs := ([a1, a2] : List Int)) (vs := [.int .i64 a1, .int .i64 a2]) 6 Try.underlying61 el2 (Nat.le_of_ble_eq_true rfl) (Nat.le_of_ble_eq_true rfl) hw hf rfl rfl rfl) fun a v6 w hf hΦ => ?_
      obtain ⟨ρ, hw, hE, o6⟩ := hΦ
      replace o1 := o1.ext hE
      replace o3 := o3.ext hE
      replace o2 := o2.ext hE
      obtain ⟨x6, hx7, hF⟩ := of_bind hF
      refine st_fn 7 hw hf rfl rfl (by decide) (r_fn en70 hf rfl) (spec_l03Numbers_ok (a0 := a0) (h0.now hw) o6.ro hx7) fun a v w ρ hf hw hE hN hΦ => ?_
      obtain rfl := hΦ
      replace o1 := o1.ext hE
      replace o3 := o3.ext hE
      replace o2 := o2.ext hE
      replace o6 := o6.ext hE
      refine st hf rfl rfl (by decide) (r_not hf rfl) fun a hf => ?_
      refine st hf rfl rfl (by decide) (r_move hf rfl) fun a hf => ?_
      rcases of_ite hF with ⟨hb8, hF⟩ | ⟨hb8, hF⟩
      · refine st_no (b := true) hf rfl rfl rfl hb8 rfl (by decide) fun a hf => ?_
        refine st_no (b := true) hf rfl rfl rfl hb8 rfl (by decide) fun a hf => ?_
        refine st_no (b := true) hf rfl rfl rfl hb8 rfl (by decide) fun a hf => ?_
        refine st hf rfl rfl (by decide) (r_pick (b := true) hf rfl hb8 rfl) fun a hf => ?_
        refine st hf rfl rfl (by decide) (r_move hf rfl) fun a hf => ?_
        refine st_no (b := true) hf rfl rfl rfl rfl rfl (by decide) fun a hf => ?_
        refine st_no (b := true) hf rfl rfl rfl rfl rfl (by decide) fun a hf => ?_
        refine st_no (b := true) hf rfl rfl rfl rfl rfl (by decide) fun a hf => ?_
        refine st_no (b := true) hf rfl rfl rfl rfl rfl (by decide) fun a hf => ?_
        refine st_no (b := true) hf rfl rfl rfl rfl rfl (by decide) fun a hf => ?_
        refine st_no (b := true) hf rfl rfl rfl rfl rfl (by decide) fun a hf => ?_
        refine st hf rfl rfl (by decide) (r_pick (b := true) hf rfl rfl rfl) fun a hf => ?_
        refine st hf rfl rfl (by decide) (r_assign hf rfl) fun a hf => ?_
        refine c_nil ⟨rfl, ?_⟩
        obtain rfl := Option.some.inj hF
        exact ⟨_, hw, hf.sub ⟨rfl, rfl, rfl, rfl, rfl, rfl, rfl, trivial⟩, o1, o2, o3⟩
      · refine st_g (b := false) hf rfl rfl rfl hb8 rfl (by decide) (r_move hf rfl) fun a hf => ?_
        obtain ⟨x9, hx10, hF⟩ := of_bind hF
        refine st_gfn (b := false) 8 hw hf rfl rfl rfl hb8 rfl (by decide) (r_fn en80 hf rfl) (spec_l01In_ok  hx10) fun a v w ρ hf hw hE hN hΦ => ?_
        obtain rfl := hΦ
        replace o1 := o1.ext hE
        replace o3 := o3.ext hE
        replace o2 := o2.ext hE
        replace o6 := o6.ext hE
        refine st_g (b := false) hf rfl rfl rfl hb8 rfl (by decide) (r_not hf rfl) fun a hf => ?_
        refine st hf rfl rfl (by decide) (r_pick (b := false) hf rfl hb8 rfl) fun a hf => ?_
        refine st hf rfl rfl (by decide) (r_move hf rfl) fun a hf => ?_
        rcases of_ite hF with ⟨hb11, hF⟩ | ⟨hb11, hF⟩
        · refine st_no (b := true) hf rfl rfl rfl hb11 rfl (by decide) fun a hf => ?_
          refine st_no (b := true) hf rfl rfl rfl hb11 rfl (by decide) fun a hf => ?_
          refine st_no (b := true) hf rfl rfl rfl hb11 rfl (by decide) fun a hf => ?_
          refine st_no (b := true) hf rfl rfl rfl hb11 rfl (by decide) fun a hf => ?_
          refine st_no (b := true) hf rfl rfl rfl hb11 rfl (by decide) fun a hf => ?_
          refine st_no (b := true) hf rfl rfl rfl hb11 rfl (by decide) fun a hf => ?_
          refine st hf rfl rfl (by decide) (r_pick (b := true) hf rfl hb11 rfl) fun a hf => ?_
          refine st hf rfl rfl (by decide) (r_assign hf rfl) fun a hf => ?_
          refine c_nil ⟨rfl, ?_⟩
          obtain rfl := Option.some.inj hF
          exact ⟨_, hw, hf.sub ⟨rfl, rfl, rfl, rfl, rfl, rfl, rfl, trivial⟩, o1, o2, o3⟩
        · refine st_g (b := false) hf rfl rfl rfl hb11 rfl (by decide) (r_move hf rfl) fun a hf => ?_
          refine st_g (b := false) hf rfl rfl rfl hb11 rfl (by decide) (r_fa fa28_0 hf rfl) fun a hf => ?_
          refine st_g (b := false) hf rfl rfl rfl hb11 rfl (by decide) (r_load_cell ty2 hf rfl (o1.cl.at_ 0 _ rfl)) fun a hf => ?_
          refine st_g (b := false) hf rfl rfl rfl hb11 rfl (by decide) (r_sub hf rfl rfl) fun a hf => ?_
          obtain ⟨x12, hx13, hF⟩ := of_bind hF
          refine st_gfn (b := false) 9 hw hf rfl rfl rfl hb11 rfl (by decide) (r_fn en80 hf rfl) (spec_l01In_ok  hx13) fun a v w ρ hf hw hE hN hΦ => ?_
          obtain rfl := hΦ
          replace o1 := o1.ext hE
          replace o3 := o3.ext hE
          replace o2 := o2.ext hE
          replace o6 := o6.ext hE
          refine st_g (b := false) hf rfl rfl rfl hb11 rfl (by decide) (r_not hf rfl) fun a hf => ?_
          refine st hf rfl rfl (by decide) (r_pick (b := false) hf rfl hb11 rfl) fun a hf => ?_
          refine st hf rfl rfl (by decide) (r_assign hf rfl) fun a hf => ?_
          refine c_nil ⟨rfl, ?_⟩
          obtain rfl := Option.some.inj hF
          exact ⟨_, hw, hf.sub ⟨rfl, rfl, rfl, rfl, rfl, rfl, rfl, trivial⟩, o1, o2, o3⟩
    · rintro a w ⟨ρ, hw, hf, o1, o2, o3⟩
      replace hf : Fr 66 a [(1, .int .i64 a1), (2, .int .i64 a2), (3, .int .i64 a3), (4, .int .i64 a4), (5, .pointer (some ((⟨g1, 0, none⟩ : Addr).add 0))), (10, .pointer (some ((⟨g2, 0, none⟩ : Addr).add 0))), (17, .bool s5)] := hf
      replace o1 : Va ρ w 1 g1 28 ([.int .i64 a0.p, .int .i64 a0.n, .int .i64 a0.m, .int .i64 a0.k, va0]) := o1
      replace o2 : Va ρ w 2 g2 28 ([.int .i64 0, .int .i64 0, .int .i64 0, .int .i64 0, (.slice none 0 0)]) := o2
      replace o3 : Ow (kf cProd) 78 ρ w w0.heap.size 3 (.slice none 0 0) ([] : List Prod) := o3
      have hF := hG4
      refine n_then ?_
      rcases of_ite hF with ⟨hb14, hF⟩ | ⟨hb14, hF⟩
      · refine c_ift hf rfl hb14 ?_
        refine c_seq ?_
        refine c_region ?_
        have o10 : Ow (kf cProd) 78 ρ w w0.heap.size 10 (.slice none 0 0) [] := Ow.nil _ _ _ _ _ _
        refine st hf rfl rfl (by decide) (r_build_struct (pl := [(0, 1), (1, 1), (2, 1), (3, 1), (4, 1)]) (vs := []) (res := ([.int .i64 0, .int .i64 0, .int .i64 0, .int .i64 0, (.slice none 0 0)]).toArray) Try.underlying28 (by kernel_rfl) ze28 hf rfl rfl rfl) fun a hf => ?_
        refine st_skip hf rfl rfl (r_store_w (cs' := [.int .i64 0, .int .i64 0, .int .i64 0, .int .i64 0, (.slice none 0 0)]) hw o2 (by decide) ty28 rfl rfl (one_sch o10.ro.one) hf rfl rfl rfl) fun a w hf hΦ => ?_
        obtain ⟨hw, hA, o2⟩ := hΦ
        replace o1 := o1.adv hA (by decide)
        replace o3 := o3.adv hA (by decide)
        replace o10 := o10.adv hA (by decide)
        refine st hf rfl rfl (by decide) (r_assign hf rfl) fun a hf => ?_
        refine c_nt ?_
        refine c_retc ?_
        obtain rfl := Option.some.inj hF
        refine r_block ?_
        refine r_then ?_
        refine c_ret hf (res_ct Try.results27 ty28 hf rfl o2.cl rfl rfl) ?_
        exact ⟨_, rfl, hw.below, ⟨_, rfl, o10.out⟩⟩
      · refine c_iff hf rfl hb14 ?_
        refine c_seq ?_
        obtain ⟨s16, hT15, hG15⟩ := of_bind hF
        clear hF
        refine c_meet (fun (s : Bool) a w => ∃ ρ, Wd w0 ρ w ∧ Fr 66 a [(1, .int .i64 a1), (2, .int .i64 a2), (3, .int .i64 a3), (4, .int .i64 a4), (5, .pointer (some ((⟨g1, 0, none⟩ : Addr).add 0))), (10, .pointer (some ((⟨g2, 0, none⟩ : Addr).add 0))), (38, .bool s)] ∧ Va ρ w 1 g1 28 ([.int .i64 a0.p, .int .i64 a0.n, .int .i64 a0.m, .int .i64 a0.k, va0]) ∧ Va ρ w 2 g2 28 ([.int .i64 0, .int .i64 0, .int .i64 0, .int .i64 0, (.slice none 0 0)]) ∧ Ow (kf cProd) 78 ρ w w0.heap.size 3 (.slice none 0 0) ([] : List Prod)) s16 ?_ ?_
        · have hF := hT15
          rcases of_ite hF with ⟨hb17, hF⟩ | ⟨hb17, hF⟩
          · replace hf : Fr 66 a [(1, .int .i64 a1), (2, .int .i64 a2), (3, .int .i64 a3), (4, .int .i64 a4), (5, .pointer (some ((⟨g1, 0, none⟩ : Addr).add 0))), (10, .pointer (some ((⟨g2, 0, none⟩ : Addr).add 0)))] := hf.sub ⟨rfl, rfl, rfl, rfl, rfl, rfl, trivial⟩
            refine c_drawL (h := 17) mixed (by kernel_rfl) (by kernel_rfl) (fun ρ w => Va ρ w 1 g1 28 ([.int .i64 a0.p, .int .i64 a0.n, .int .i64 a0.m, .int .i64 a0.k, va0]) ∧ Va ρ w 2 g2 28 ([.int .i64 0, .int .i64 0, .int .i64 0, .int .i64 0, (.slice none 0 0)]) ∧ Ow (kf cProd) 78 ρ w w0.heap.size 3 (.slice none 0 0) ([] : List Prod)) ?_ [fun ρ w v => .int .i64 a1 = v, fun ρ w v => .int .i64 a2 = v, fun ρ w v => .bool (decide (a1 = a2)) = v, fun ρ w v => .bool (decide (a1 = a2)) = v, fun ρ w v => undef = v, fun ρ w v => undef = v, fun ρ w v => undef = v, fun ρ w v => undef = v, fun ρ w v => undef = v, fun ρ w v => undef = v, fun ρ w v => undef = v, fun ρ w v => undef = v, fun ρ w v => undef = v, fun ρ w v => undef = v, fun ρ w v => undef = v, fun ρ w v => undef = v, fun ρ w v => undef = v] ?_ hw ⟨o1, o2, o3⟩ hf ?_ ?_
            · intro ρ w ρ' w' hE hG
              obtain ⟨o1, o2, o3⟩ := hG
              exact ⟨o1.ext hE, o2.ext hE, o3.ext hE⟩
            · exact LastsL.cons (fun _ _ _ _ _ _ h => h) <| LastsL.cons (fun _ _ _ _ _ _ h => h) <| LastsL.cons (fun _ _ _ _ _ _ h => h) <| LastsL.cons (fun _ _ _ _ _ _ h => h) <| LastsL.cons (fun _ _ _ _ _ _ h => h) <| LastsL.cons (fun _ _ _ _ _ _ h => h) <| LastsL.cons (fun _ _ _ _ _ _ h => h) <| LastsL.cons (fun _ _ _ _ _ _ h => h) <| LastsL.cons (fun _ _ _ _ _ _ h => h) <| LastsL.cons (fun _ _ _ _ _ _ h => h) <| LastsL.cons (fun _ _ _ _ _ _ h => h) <| LastsL.cons (fun _ _ _ _ _ _ h => h) <| LastsL.cons (fun _ _ _ _ _ _ h => h) <| LastsL.cons (fun _ _ _ _ _ _ h => h) <| LastsL.cons (fun _ _ _ _ _ _ h => h) <| LastsL.cons (fun _ _ _ _ _ _ h => h) <| LastsL.cons (fun _ _ _ _ _ _ h => h) <| LastsL.nil
            · refine StepsB.cons ?_ <| StepsB.cons ?_ <| StepsB.cons ?_ <| StepsB.cons ?_ <| StepsB.cons ?_ <| StepsB.cons ?_ <| StepsB.cons ?_ <| StepsB.cons ?_ <| StepsB.cons ?_ <| StepsB.cons ?_ <| StepsB.cons ?_ <| StepsB.cons ?_ <| StepsB.cons ?_ <| StepsB.cons ?_ <| StepsB.cons ?_ <| StepsB.cons ?_ <| StepsB.cons ?_ <| StepsB.nil
              · intro ρ w a hw hG hf hd K hK
                obtain ⟨o1, o2, o3⟩ := hG
                exact d_val (R := fun ρ w v => .int .i64 a1 = v) hw (wn rfl) (r_move hf rfl) rfl rfl hK
              · intro ρ w a hw hG hf hd K hK
                obtain ⟨o1, o2, o3⟩ := hG
                exact d_val (R := fun ρ w v => .int .i64 a2 = v) hw (wn rfl) (r_move hf rfl) rfl rfl hK
              · intro ρ w a hw hG hf hd K hK
                obtain ⟨o1, o2, o3⟩ := hG
                obtain ⟨_, ht, rfl⟩ := hd 0 (by kernel_rfl)
                replace hf := hf.more ht
                obtain ⟨_, ht, rfl⟩ := hd 1 (by kernel_rfl)
                replace hf := hf.more ht
                exact d_val (R := fun ρ w v => .bool (decide (a1 = a2)) = v) hw (wn rfl) (r_eql hf rfl rfl) rfl rfl hK
              · intro ρ w a hw hG hf hd K hK
                obtain ⟨o1, o2, o3⟩ := hG
                obtain ⟨_, ht, rfl⟩ := hd 2 (by kernel_rfl)
                replace hf := hf.more ht
                exact d_val (R := fun ρ w v => .bool (decide (a1 = a2)) = v) hw (wn rfl) (r_move hf rfl) rfl rfl hK
              · intro ρ w a hw hG hf hd K hK
                obtain ⟨o1, o2, o3⟩ := hG
                obtain ⟨_, ht, rfl⟩ := hd 3 (by kernel_rfl)
                replace hf := hf.more ht
                exact d_off (R := fun ρ w v => undef = v) (b := true) hw hf rfl rfl rfl hb17 rfl rfl hK
              · intro ρ w a hw hG hf hd K hK
                obtain ⟨o1, o2, o3⟩ := hG
                obtain ⟨_, ht, rfl⟩ := hd 3 (by kernel_rfl)
                replace hf := hf.more ht
                obtain ⟨_, ht, rfl⟩ := hd 4 (by kernel_rfl)
                replace hf := hf.more ht
                exact d_off (R := fun ρ w v => undef = v) (b := true) hw hf rfl rfl rfl hb17 rfl rfl hK
              · intro ρ w a hw hG hf hd K hK
                obtain ⟨o1, o2, o3⟩ := hG
                obtain ⟨_, ht, rfl⟩ := hd 3 (by kernel_rfl)
                replace hf := hf.more ht
                exact d_off (R := fun ρ w v => undef = v) (b := true) hw hf rfl rfl rfl hb17 rfl rfl hK
              · intro ρ w a hw hG hf hd K hK
                obtain ⟨o1, o2, o3⟩ := hG
                obtain ⟨_, ht, rfl⟩ := hd 3 (by kernel_rfl)
                replace hf := hf.more ht
                obtain ⟨_, ht, rfl⟩ := hd 5 (by kernel_rfl)
                replace hf := hf.more ht
                obtain ⟨_, ht, rfl⟩ := hd 6 (by kernel_rfl)
                replace hf := hf.more ht
                exact d_off (R := fun ρ w v => undef = v) (b := true) hw hf rfl rfl rfl hb17 rfl rfl hK
              · intro ρ w a hw hG hf hd K hK
                obtain ⟨o1, o2, o3⟩ := hG
                obtain ⟨_, ht, rfl⟩ := hd 3 (by kernel_rfl)
                replace hf := hf.more ht
                obtain ⟨_, ht, rfl⟩ := hd 7 (by kernel_rfl)
                replace hf := hf.more ht
                exact d_off (R := fun ρ w v => undef = v) (b := true) hw hf rfl rfl rfl hb17 rfl rfl hK
              · intro ρ w a hw hG hf hd K hK
                obtain ⟨o1, o2, o3⟩ := hG
                obtain ⟨_, ht, rfl⟩ := hd 3 (by kernel_rfl)
                replace hf := hf.more ht
                exact d_off (R := fun ρ w v => undef = v) (b := true) hw hf rfl rfl rfl hb17 rfl rfl hK
              · intro ρ w a hw hG hf hd K hK
                obtain ⟨o1, o2, o3⟩ := hG
                obtain ⟨_, ht, rfl⟩ := hd 3 (by kernel_rfl)
                replace hf := hf.more ht
                obtain ⟨_, ht, rfl⟩ := hd 8 (by kernel_rfl)
                replace hf := hf.more ht
                obtain ⟨_, ht, rfl⟩ := hd 9 (by kernel_rfl)
                replace hf := hf.more ht
                exact d_off (R := fun ρ w v => undef = v) (b := true) hw hf rfl rfl rfl hb17 rfl rfl hK
              · intro ρ w a hw hG hf hd K hK
                obtain ⟨o1, o2, o3⟩ := hG
                obtain ⟨_, ht, rfl⟩ := hd 3 (by kernel_rfl)
                replace hf := hf.more ht
                exact d_off (R := fun ρ w v => undef = v) (b := true) hw hf rfl rfl rfl hb17 rfl rfl hK
              · intro ρ w a hw hG hf hd K hK
                obtain ⟨o1, o2, o3⟩ := hG
                obtain ⟨_, ht, rfl⟩ := hd 3 (by kernel_rfl)
                replace hf := hf.more ht
                obtain ⟨_, ht, rfl⟩ := hd 11 (by kernel_rfl)
                replace hf := hf.more ht
                exact d_off (R := fun ρ w v => undef = v) (b := true) hw hf rfl rfl rfl hb17 rfl rfl hK
              · intro ρ w a hw hG hf hd K hK
                obtain ⟨o1, o2, o3⟩ := hG
                obtain ⟨_, ht, rfl⟩ := hd 3 (by kernel_rfl)
                replace hf := hf.more ht
                exact d_off (R := fun ρ w v => undef = v) (b := true) hw hf rfl rfl rfl hb17 rfl rfl hK
              · intro ρ w a hw hG hf hd K hK
                obtain ⟨o1, o2, o3⟩ := hG
                obtain ⟨_, ht, rfl⟩ := hd 3 (by kernel_rfl)
                replace hf := hf.more ht
                obtain ⟨_, ht, rfl⟩ := hd 12 (by kernel_rfl)
                replace hf := hf.more ht
                obtain ⟨_, ht, rfl⟩ := hd 13 (by kernel_rfl)
                replace hf := hf.more ht
                exact d_off (R := fun ρ w v => undef = v) (b := true) hw hf rfl rfl rfl hb17 rfl rfl hK
              · intro ρ w a hw hG hf hd K hK
                obtain ⟨o1, o2, o3⟩ := hG
                obtain ⟨_, ht, rfl⟩ := hd 3 (by kernel_rfl)
                replace hf := hf.more ht
                obtain ⟨_, ht, rfl⟩ := hd 14 (by kernel_rfl)
                replace hf := hf.more ht
                exact d_off (R := fun ρ w v => undef = v) (b := true) hw hf rfl rfl rfl hb17 rfl rfl hK
              · intro ρ w a hw hG hf hd K hK
                obtain ⟨o1, o2, o3⟩ := hG
                obtain ⟨_, ht, rfl⟩ := hd 3 (by kernel_rfl)
                replace hf := hf.more ht
                exact d_off (R := fun ρ w v => undef = v) (b := true) hw hf rfl rfl rfl hb17 rfl rfl hK
            · intro ρ w a hw hG hf hd
              obtain ⟨o1, o2, o3⟩ := hG
              replace hf : Fr 66 a [(1, .int .i64 a1), (2, .int .i64 a2), (3, .int .i64 a3), (4, .int .i64 a4), (5, .pointer (some ((⟨g1, 0, none⟩ : Addr).add 0))), (10, .pointer (some ((⟨g2, 0, none⟩ : Addr).add 0)))] := hf
              obtain ⟨_, ht, rfl⟩ := hd 3 (by decide)
              replace hf := hf.more ht
              obtain ⟨_, ht, rfl⟩ := hd 10 (by decide)
              replace hf := hf.more ht
              obtain ⟨_, ht, rfl⟩ := hd 15 (by decide)
              replace hf := hf.more ht
              obtain ⟨_, ht, rfl⟩ := hd 16 (by decide)
              replace hf := hf.more ht
              refine st_no (b := true) hf rfl rfl rfl hb17 rfl (by decide) fun a hf => ?_
              refine st_no (b := true) hf rfl rfl rfl hb17 rfl (by decide) fun a hf => ?_
              refine st hf rfl rfl (by decide) (r_pick (b := true) hf rfl hb17 rfl) fun a hf => ?_
              refine st hf rfl rfl (by decide) (r_assign hf rfl) fun a hf => ?_
              refine c_nil ⟨rfl, ?_⟩
              obtain rfl := Option.some.inj hF
              exact ⟨_, hw, hf.sub ⟨rfl, rfl, rfl, rfl, rfl, rfl, rfl, trivial⟩, o1, o2, o3⟩
          · obtain ⟨hc18, hF⟩ := of_guard hF
            obtain ⟨ad19, c19, he19, hl19⟩ := Ro.el cProd h0 zProd hc18.1 hc18.2
            obtain ⟨x20, hx21, hF⟩ := of_bind hF
            obtain ⟨hc22, hF⟩ := of_guard hF
            obtain ⟨ad23, c23, he23, hl23⟩ := Ro.el cProd h0 zProd hc22.1 hc22.2
            replace hf : Fr 66 a [(1, .int .i64 a1), (2, .int .i64 a2), (3, .int .i64 a3), (4, .int .i64 a4), (5, .pointer (some ((⟨g1, 0, none⟩ : Addr).add 0))), (10, .pointer (some ((⟨g2, 0, none⟩ : Addr).add 0)))] := hf.sub ⟨rfl, rfl, rfl, rfl, rfl, rfl, trivial⟩
            refine c_drawL (h := 17) mixed (by kernel_rfl) (by kernel_rfl) (fun ρ w => Va ρ w 1 g1 28 ([.int .i64 a0.p, .int .i64 a0.n, .int .i64 a0.m, .int .i64 a0.k, va0]) ∧ Va ρ w 2 g2 28 ([.int .i64 0, .int .i64 0, .int .i64 0, .int .i64 0, (.slice none 0 0)]) ∧ Ow (kf cProd) 78 ρ w w0.heap.size 3 (.slice none 0 0) ([] : List Prod)) ?_ [fun ρ w v => .int .i64 a1 = v, fun ρ w v => .int .i64 a2 = v, fun ρ w v => .bool (decide (a1 = a2)) = v, fun ρ w v => .bool (decide (a1 = a2)) = v, fun ρ w v => .pointer (some ((⟨g1, 0, none⟩ : Addr).add (0 + 4))) = v, fun ρ w v => va0 = v, fun ρ w v => .int .i64 a1 = v, fun ρ w v => .pointer (some (ad19.add (a1.toNat * 27))) = v, fun ρ w v => .agg (cProd.enc (gl zProd a0.ps a1)).toArray = v, fun ρ w v => .int .i64 a3 = v, fun ρ w v => .agg (cForm.enc x20).toArray = v, fun ρ w v => .pointer (some ((⟨g1, 0, none⟩ : Addr).add (0 + 4))) = v, fun ρ w v => va0 = v, fun ρ w v => .int .i64 a2 = v, fun ρ w v => .pointer (some (ad23.add (a2.toNat * 27))) = v, fun ρ w v => .agg (cProd.enc (gl zProd a0.ps a2)).toArray = v, fun ρ w v => .int .i64 a3 = v] ?_ hw ⟨o1, o2, o3⟩ hf ?_ ?_
            · intro ρ w ρ' w' hE hG
              obtain ⟨o1, o2, o3⟩ := hG
              exact ⟨o1.ext hE, o2.ext hE, o3.ext hE⟩
            · exact LastsL.cons (fun _ _ _ _ _ _ h => h) <| LastsL.cons (fun _ _ _ _ _ _ h => h) <| LastsL.cons (fun _ _ _ _ _ _ h => h) <| LastsL.cons (fun _ _ _ _ _ _ h => h) <| LastsL.cons (fun _ _ _ _ _ _ h => h) <| LastsL.cons (fun _ _ _ _ _ _ h => h) <| LastsL.cons (fun _ _ _ _ _ _ h => h) <| LastsL.cons (fun _ _ _ _ _ _ h => h) <| LastsL.cons (fun _ _ _ _ _ _ h => h) <| LastsL.cons (fun _ _ _ _ _ _ h => h) <| LastsL.cons (fun _ _ _ _ _ _ h => h) <| LastsL.cons (fun _ _ _ _ _ _ h => h) <| LastsL.cons (fun _ _ _ _ _ _ h => h) <| LastsL.cons (fun _ _ _ _ _ _ h => h) <| LastsL.cons (fun _ _ _ _ _ _ h => h) <| LastsL.cons (fun _ _ _ _ _ _ h => h) <| LastsL.cons (fun _ _ _ _ _ _ h => h) <| LastsL.nil
            · refine StepsB.cons ?_ <| StepsB.cons ?_ <| StepsB.cons ?_ <| StepsB.cons ?_ <| StepsB.cons ?_ <| StepsB.cons ?_ <| StepsB.cons ?_ <| StepsB.cons ?_ <| StepsB.cons ?_ <| StepsB.cons ?_ <| StepsB.cons ?_ <| StepsB.cons ?_ <| StepsB.cons ?_ <| StepsB.cons ?_ <| StepsB.cons ?_ <| StepsB.cons ?_ <| StepsB.cons ?_ <| StepsB.nil
              · intro ρ w a hw hG hf hd K hK
                obtain ⟨o1, o2, o3⟩ := hG
                exact d_val (R := fun ρ w v => .int .i64 a1 = v) hw (wn rfl) (r_move hf rfl) rfl rfl hK
              · intro ρ w a hw hG hf hd K hK
                obtain ⟨o1, o2, o3⟩ := hG
                exact d_val (R := fun ρ w v => .int .i64 a2 = v) hw (wn rfl) (r_move hf rfl) rfl rfl hK
              · intro ρ w a hw hG hf hd K hK
                obtain ⟨o1, o2, o3⟩ := hG
                obtain ⟨_, ht, rfl⟩ := hd 0 (by kernel_rfl)
                replace hf := hf.more ht
                obtain ⟨_, ht, rfl⟩ := hd 1 (by kernel_rfl)
                replace hf := hf.more ht
                exact d_val (R := fun ρ w v => .bool (decide (a1 = a2)) = v) hw (wn rfl) (r_eql hf rfl rfl) rfl rfl hK
              · intro ρ w a hw hG hf hd K hK
                obtain ⟨o1, o2, o3⟩ := hG
                obtain ⟨_, ht, rfl⟩ := hd 2 (by kernel_rfl)
                replace hf := hf.more ht
                exact d_val (R := fun ρ w v => .bool (decide (a1 = a2)) = v) hw (wn rfl) (r_move hf rfl) rfl rfl hK
              · intro ρ w a hw hG hf hd K hK
                obtain ⟨o1, o2, o3⟩ := hG
                obtain ⟨_, ht, rfl⟩ := hd 3 (by kernel_rfl)
                replace hf := hf.more ht
                exact d_val (R := fun ρ w v => .pointer (some ((⟨g1, 0, none⟩ : Addr).add (0 + 4))) = v) hw (wg (b := false) hf rfl rfl rfl hb17) (r_fa fa28_4 hf rfl) rfl rfl hK
              · intro ρ w a hw hG hf hd K hK
                obtain ⟨o1, o2, o3⟩ := hG
                obtain ⟨_, ht, rfl⟩ := hd 3 (by kernel_rfl)
                replace hf := hf.more ht
                obtain ⟨_, ht, rfl⟩ := hd 4 (by kernel_rfl)
                replace hf := hf.more ht
                exact d_val (R := fun ρ w v => va0 = v) hw (wg (b := false) hf rfl rfl rfl hb17) (r_load_cell ty26 hf rfl (o1.cl.at_ 4 _ rfl)) rfl rfl hK
              · intro ρ w a hw hG hf hd K hK
                obtain ⟨o1, o2, o3⟩ := hG
                obtain ⟨_, ht, rfl⟩ := hd 3 (by kernel_rfl)
                replace hf := hf.more ht
                exact d_val (R := fun ρ w v => .int .i64 a1 = v) hw (wg (b := false) hf rfl rfl rfl hb17) (r_move hf rfl) rfl rfl hK
              · intro ρ w a hw hG hf hd K hK
                obtain ⟨o1, o2, o3⟩ := hG
                obtain ⟨_, ht, rfl⟩ := hd 3 (by kernel_rfl)
                replace hf := hf.more ht
                obtain ⟨_, ht, rfl⟩ := hd 5 (by kernel_rfl)
                replace hf := hf.more ht
                obtain ⟨_, ht, rfl⟩ := hd 6 (by kernel_rfl)
                replace hf := hf.more ht
                exact d_val (R := fun ρ w v => .pointer (some (ad19.add (a1.toNat * 27))) = v) hw (wg (b := false) hf rfl rfl rfl hb17) (r_idx Try.underlying26 sz78 hf rfl ⟨_, he19⟩ rfl hc18.1 hc18.2) rfl rfl hK
              · intro ρ w a hw hG hf hd K hK
                obtain ⟨o1, o2, o3⟩ := hG
                obtain ⟨_, ht, rfl⟩ := hd 3 (by kernel_rfl)
                replace hf := hf.more ht
                obtain ⟨_, ht, rfl⟩ := hd 7 (by kernel_rfl)
                replace hf := hf.more ht
                exact d_val (R := fun ρ w v => .agg (cProd.enc (gl zProd a0.ps a1)).toArray = v) hw (wg (b := false) hf rfl rfl rfl hb17) (r_load_agg ty78 hf rfl (hl19.below hw.below) (cProd.len _)) rfl rfl hK
              · intro ρ w a hw hG hf hd K hK
                obtain ⟨o1, o2, o3⟩ := hG
                obtain ⟨_, ht, rfl⟩ := hd 3 (by kernel_rfl)
                replace hf := hf.more ht
                exact d_val (R := fun ρ w v => .int .i64 a3 = v) hw (wg (b := false) hf rfl rfl rfl hb17) (r_move hf rfl) rfl rfl hK
              · intro ρ w a hw hG hf hd K hK
                obtain ⟨o1, o2, o3⟩ := hG
                obtain ⟨_, ht, rfl⟩ := hd 3 (by kernel_rfl)
                replace hf := hf.more ht
                obtain ⟨_, ht, rfl⟩ := hd 8 (by kernel_rfl)
                replace hf := hf.more ht
                obtain ⟨_, ht, rfl⟩ := hd 9 (by kernel_rfl)
                replace hf := hf.more ht
                refine d_call (R := fun ρ w v => .agg (cForm.enc x20).toArray = v) hw (wg (b := false) hf rfl rfl rfl hb17) (r_fn en84 hf rfl) (spec_l03Factor_ok  hx21) rfl (fun v w' hΦ => ?_) hK
                obtain ⟨hb, hΦ⟩ := hΦ
                obtain rfl := hΦ
                have hE := Ext.new (ρ := ρ) 11 hb
                exact ⟨_, hw.new 11 hb, hE, rfl⟩
              · intro ρ w a hw hG hf hd K hK
                obtain ⟨o1, o2, o3⟩ := hG
                obtain ⟨_, ht, rfl⟩ := hd 3 (by kernel_rfl)
                replace hf := hf.more ht
                exact d_val (R := fun ρ w v => .pointer (some ((⟨g1, 0, none⟩ : Addr).add (0 + 4))) = v) hw (wg (b := false) hf rfl rfl rfl hb17) (r_fa fa28_4 hf rfl) rfl rfl hK
              · intro ρ w a hw hG hf hd K hK
                obtain ⟨o1, o2, o3⟩ := hG
                obtain ⟨_, ht, rfl⟩ := hd 3 (by kernel_rfl)
                replace hf := hf.more ht
                obtain ⟨_, ht, rfl⟩ := hd 11 (by kernel_rfl)
                replace hf := hf.more ht
                exact d_val (R := fun ρ w v => va0 = v) hw (wg (b := false) hf rfl rfl rfl hb17) (r_load_cell ty26 hf rfl (o1.cl.at_ 4 _ rfl)) rfl rfl hK
              · intro ρ w a hw hG hf hd K hK
                obtain ⟨o1, o2, o3⟩ := hG
                obtain ⟨_, ht, rfl⟩ := hd 3 (by kernel_rfl)
                replace hf := hf.more ht
                exact d_val (R := fun ρ w v => .int .i64 a2 = v) hw (wg (b := false) hf rfl rfl rfl hb17) (r_move hf rfl) rfl rfl hK
              · intro ρ w a hw hG hf hd K hK
                obtain ⟨o1, o2, o3⟩ := hG
                obtain ⟨_, ht, rfl⟩ := hd 3 (by kernel_rfl)
                replace hf := hf.more ht
                obtain ⟨_, ht, rfl⟩ := hd 12 (by kernel_rfl)
                replace hf := hf.more ht
                obtain ⟨_, ht, rfl⟩ := hd 13 (by kernel_rfl)
                replace hf := hf.more ht
                exact d_val (R := fun ρ w v => .pointer (some (ad23.add (a2.toNat * 27))) = v) hw (wg (b := false) hf rfl rfl rfl hb17) (r_idx Try.underlying26 sz78 hf rfl ⟨_, he23⟩ rfl hc22.1 hc22.2) rfl rfl hK
              · intro ρ w a hw hG hf hd K hK
                obtain ⟨o1, o2, o3⟩ := hG
                obtain ⟨_, ht, rfl⟩ := hd 3 (by kernel_rfl)
                replace hf := hf.more ht
                obtain ⟨_, ht, rfl⟩ := hd 14 (by kernel_rfl)
                replace hf := hf.more ht
                exact d_val (R := fun ρ w v => .agg (cProd.enc (gl zProd a0.ps a2)).toArray = v) hw (wg (b := false) hf rfl rfl rfl hb17) (r_load_agg ty78 hf rfl (hl23.below hw.below) (cProd.len _)) rfl rfl hK
              · intro ρ w a hw hG hf hd K hK
                obtain ⟨o1, o2, o3⟩ := hG
                obtain ⟨_, ht, rfl⟩ := hd 3 (by kernel_rfl)
                replace hf := hf.more ht
                exact d_val (R := fun ρ w v => .int .i64 a3 = v) hw (wg (b := false) hf rfl rfl rfl hb17) (r_move hf rfl) rfl rfl hK
            · intro ρ w a hw hG hf hd
              obtain ⟨o1, o2, o3⟩ := hG
              replace hf : Fr 66 a [(1, .int .i64 a1), (2, .int .i64 a2), (3, .int .i64 a3), (4, .int .i64 a4), (5, .pointer (some ((⟨g1, 0, none⟩ : Addr).add 0))), (10, .pointer (some ((⟨g2, 0, none⟩ : Addr).add 0)))] := hf
              obtain ⟨_, ht, rfl⟩ := hd 3 (by decide)
              replace hf := hf.more ht
              obtain ⟨_, ht, rfl⟩ := hd 10 (by decide)
              replace hf := hf.more ht
              obtain ⟨_, ht, rfl⟩ := hd 15 (by decide)
              replace hf := hf.more ht
              obtain ⟨_, ht, rfl⟩ := hd 16 (by decide)
              replace hf := hf.more ht
              obtain ⟨x24, hx25, hF⟩ := of_bind hF
              refine st_gfn (b := false) 12 hw hf rfl rfl rfl hb17 rfl (by decide) (r_fn en84 hf rfl) (spec_l03Factor_ok  hx25) fun a v w ρ hf hw hE hN hΦ => ?_
              obtain rfl := hΦ
              replace o1 := o1.ext hE
              replace o2 := o2.ext hE
              replace o3 := o3.ext hE
              refine st_g (b := false) hf rfl rfl rfl hb17 rfl (by decide) (r_ne (d := cForm) eq39 ⟨_, rfl⟩ gt39 hf rfl rfl) fun a hf => ?_
              refine st hf rfl rfl (by decide) (r_pick (b := false) hf rfl hb17 rfl) fun a hf => ?_
              refine st hf rfl rfl (by decide) (r_assign hf rfl) fun a hf => ?_
              refine c_nil ⟨rfl, ?_⟩
              obtain rfl := Option.some.inj hF
              exact ⟨_, hw, hf.sub ⟨rfl, rfl, rfl, rfl, rfl, rfl, rfl, trivial⟩, o1, o2, o3⟩
        · rintro a w ⟨ρ, hw, hf, o1, o2, o3⟩
          replace hf : Fr 66 a [(1, .int .i64 a1), (2, .int .i64 a2), (3, .int .i64 a3), (4, .int .i64 a4), (5, .pointer (some ((⟨g1, 0, none⟩ : Addr).add 0))), (10, .pointer (some ((⟨g2, 0, none⟩ : Addr).add 0))), (38, .bool s16)] := hf
          replace o1 : Va ρ w 1 g1 28 ([.int .i64 a0.p, .int .i64 a0.n, .int .i64 a0.m, .int .i64 a0.k, va0]) := o1
          replace o2 : Va ρ w 2 g2 28 ([.int .i64 0, .int .i64 0, .int .i64 0, .int .i64 0, (.slice none 0 0)]) := o2
          replace o3 : Ow (kf cProd) 78 ρ w w0.heap.size 3 (.slice none 0 0) ([] : List Prod) := o3
          have hF := hG15
          refine n_then ?_
          rcases of_ite hF with ⟨hb26, hF⟩ | ⟨hb26, hF⟩
          · refine c_ift hf rfl hb26 ?_
            refine c_seq ?_
            refine c_region ?_
            have o13 : Ow (kf cProd) 78 ρ w w0.heap.size 13 (.slice none 0 0) [] := Ow.nil _ _ _ _ _ _
            refine st hf rfl rfl (by decide) (r_build_struct (pl := [(0, 1), (1, 1), (2, 1), (3, 1), (4, 1)]) (vs := []) (res := ([.int .i64 0, .int .i64 0, .int .i64 0, .int .i64 0, (.slice none 0 0)]).toArray) Try.underlying28 (by kernel_rfl) ze28 hf rfl rfl rfl) fun a hf => ?_
            refine st_skip hf rfl rfl (r_store_w (cs' := [.int .i64 0, .int .i64 0, .int .i64 0, .int .i64 0, (.slice none 0 0)]) hw o2 (by decide) ty28 rfl rfl (one_sch o13.ro.one) hf rfl rfl rfl) fun a w hf hΦ => ?_
            obtain ⟨hw, hA, o2⟩ := hΦ
            replace o1 := o1.adv hA (by decide)
            replace o3 := o3.adv hA (by decide)
            replace o13 := o13.adv hA (by decide)
            refine st hf rfl rfl (by decide) (r_assign hf rfl) fun a hf => ?_
            refine c_nt ?_
            refine c_retc ?_
            obtain rfl := Option.some.inj hF
            refine r_block ?_
            refine r_then ?_
            refine c_ret hf (res_ct Try.results27 ty28 hf rfl o2.cl rfl rfl) ?_
            exact ⟨_, rfl, hw.below, ⟨_, rfl, o13.out⟩⟩
          · refine c_iff hf rfl hb26 ?_
            refine c_skip ?_
            refine n_block ?_
            refine n_then ?_
            refine c_seq ?_
            refine c_region ?_
            refine st hf rfl rfl (by decide) (r_load_agg ty28 hf rfl o1.cl rfl) fun a hf => ?_
            refine st hf rfl rfl (by decide) (r_move hf rfl) fun a hf => ?_
            refine st hf rfl rfl (by decide) (r_move hf rfl) fun a hf => ?_
            refine st hf rfl rfl (by decide) (r_move hf rfl) fun a hf => ?_
            refine st hf rfl rfl (by decide) (r_move hf rfl) fun a hf => ?_
            obtain ⟨x27, hx28, hF⟩ := of_bind hF
            refine st_fn 14 hw hf rfl rfl (by decide) (r_fn en89 hf rfl) (spec_l03Flip_ok (a0 := a0) (h0.now hw) hx28) fun a v w ρ hf hw hE hN hΦ => ?_
            obtain ⟨u29, rfl, hr30⟩ := hΦ
            replace o1 := o1.ext hE
            replace o2 := o2.ext hE
            replace o3 := o3.ext hE
            have o14 := hN hr30
            refine st_skip hf rfl rfl (r_store_w (cs' := [.int .i64 x27.p, .int .i64 x27.n, .int .i64 x27.m, .int .i64 x27.k, u29]) hw o2 (by decide) ty28 rfl rfl (one_sch o14.ro.one) hf rfl rfl rfl) fun a w hf hΦ => ?_
            obtain ⟨hw, hA, o2⟩ := hΦ
            replace o1 := o1.adv hA (by decide)
            replace o3 := o3.adv hA (by decide)
            replace o14 := o14.adv hA (by decide)
            refine st hf rfl rfl (by decide) (r_assign hf rfl) fun a hf => ?_
            refine c_nt ?_
            refine c_retc ?_
            obtain rfl := Option.some.inj hF
            refine c_ret hf (res_ct Try.results27 ty28 hf rfl o2.cl rfl rfl) ?_
            exact ⟨_, rfl, hw.below, ⟨_, rfl, o14.out⟩⟩
/-! f88 -/
noncomputable def impl_productOf (a0 : Forms) : Option Prod :=
  some ((vg zForm a0 0, vg zForm a0 1, vg zForm a0 2))
theorem impl_productOf_ok {w0 : World} {a0 : Forms}   {r : Prod} (hF : impl_productOf a0 = some r) :
    Calls Try.prog 88 [.agg (cForms.enc a0).toArray].toArray w0 fun e w => ∃ v, e = .returned v ∧ Below w0.heap.size w0 w ∧ .agg (cProd.enc r).toArray = v := by
  refine calls_of (k := 10) Try.func88 rfl rfl (Nat.le_of_ble_eq_true rfl) fun a hf => ?_
  replace hf : Fr 10 a [(0, .agg (cForms.enc a0).toArray)] := hf
  refine c_start fun w ρ hw => ?_
  unfold impl_productOf at hF
  refine c_seq ?_
  refine c_region ?_
  refine st_ex hf rfl rfl (by decide) (r_box (cs := cForms.enc a0) 1 hw hf rfl rfl) fun a v w hf hΦ => ?_
  obtain ⟨g1, ρ, rfl, hw, hE, o1⟩ := hΦ
  refine st_ex hf rfl rfl (by decide) (r_alloc (cs := cProd.enc zProd) 2 ze78 rfl hw) fun a v w hf hΦ => ?_
  obtain ⟨g2, ρ, rfl, hw, hE, o2⟩ := hΦ
  replace o1 := o1.ext hE
  refine c_nt ?_
  refine c_seq ?_
  refine c_region ?_
  refine st hf rfl rfl (by decide) (r_indexAddr_arr Try.underlying91 sz39 hf rfl rfl (by decide) (by decide)) fun a hf => ?_
  refine st hf rfl rfl (by decide) (r_load_agg ty39 hf rfl (o1.cl.lens (Lens.vec zForm cForm 0 (by decide) (by decide))) (cForm.len _)) fun a hf => ?_
  refine st hf rfl rfl (by decide) (r_indexAddr_arr Try.underlying91 sz39 hf rfl rfl (by decide) (by decide)) fun a hf => ?_
  refine st hf rfl rfl (by decide) (r_load_agg ty39 hf rfl (o1.cl.lens (Lens.vec zForm cForm 1 (by decide) (by decide))) (cForm.len _)) fun a hf => ?_
  refine st hf rfl rfl (by decide) (r_indexAddr_arr Try.underlying91 sz39 hf rfl rfl (by decide) (by decide)) fun a hf => ?_
  refine st hf rfl rfl (by decide) (r_load_agg ty39 hf rfl (o1.cl.lens (Lens.vec zForm cForm 2 (by decide) (by decide))) (cForm.len _)) fun a hf => ?_
  refine st hf rfl rfl (by decide) (r_build_struct (pl := [(0, 9), (9, 9), (18, 9)]) (vs := [(0, .agg (cForm.enc (vg zForm a0 0)).toArray), (1, .agg (cForm.enc (vg zForm a0 1)).toArray), (2, .agg (cForm.enc (vg zForm a0 2)).toArray)]) (res := (cProd.enc (vg zForm a0 0, vg zForm a0 1, vg zForm a0 2)).toArray) Try.underlying78 (by kernel_rfl) ze78 hf rfl rfl ((fill_lens (d := cProd) (z := zProd) lProd_0 rfl rfl).trans ((fill_lens (d := cProd) (z := (vg zForm a0 0, zProd.2.1, zProd.2.2)) lProd_1 rfl rfl).trans ((fill_lens (d := cProd) (z := (vg zForm a0 0, vg zForm a0 1, zProd.2.2)) lProd_2 rfl rfl).trans rfl)))) fun a hf => ?_
  refine st_skip hf rfl rfl (r_store_w (cs' := cProd.enc (vg zForm a0 0, vg zForm a0 1, vg zForm a0 2)) hw o2 (by decide) ty78 (cProd.len _) (cProd.len _) (cProd.one _) hf rfl rfl rfl) fun a w hf hΦ => ?_
  obtain ⟨hw, hA, o2⟩ := hΦ
  replace o1 := o1.adv hA (by decide)
  refine c_nt ?_
  refine c_retc ?_
  obtain rfl := Option.some.inj hF
  refine c_ret hf (res_cell Try.results88 ty78 hf rfl o2.cl (cProd.len _)) ?_
  exact ⟨_, rfl, hw.below, rfl⟩
end Go.Proofs.YtB
