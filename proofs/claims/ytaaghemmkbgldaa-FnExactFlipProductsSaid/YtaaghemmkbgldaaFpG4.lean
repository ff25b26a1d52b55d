/- Functions of the program as plain functions, and that they compute these. Printed by gen.py. -/
import Derived.Test.YtaaghemmkbgldaaFpG3
set_option linter.unusedVariables false
set_option linter.unusedSimpArgs false
set_option maxRecDepth 4000
set_option maxHeartbeats 1000000
namespace Go.Proofs.YtB
open Go Go.RowKit Go.Proofs Go.Proofs.YtaaghemmkbgldaaW.PrintWords
/-! f90 -/
noncomputable def impl_flip (a0 : Sch) (a1 : Int) (a2 : Int) (a3 : Int) (a4 : Int) : Option Sch :=
  (slices_Clone_76 a0.ps).bind fun x1 => if 0 ≤ a1 ∧ a1 < (x1.length : Int) then ((impl_factors (gl zProd x1 a1)).bind fun x7 => if 0 ≤ a2 ∧ a2 < (x1.length : Int) then ((impl_factors (gl zProd x1 a2)).bind fun x11 => if 0 ≤ (w64 (a3 + 1)).tmod 3 ∧ (w64 (a3 + 1)).tmod 3 < 3 then ((impl_sum a0.p (vg zForm x7 ((w64 (a3 + 1)).tmod 3)) (vg zForm x11 ((w64 (a3 + 1)).tmod 3)) a4).bind fun x14 => if 0 ≤ (w64 (a3 + 2)).tmod 3 ∧ (w64 (a3 + 2)).tmod 3 < 3 then ((impl_sum a0.p (vg zForm x11 ((w64 (a3 + 2)).tmod 3)) (vg zForm (vs x7 ((w64 (a3 + 1)).tmod 3) x14) ((w64 (a3 + 2)).tmod 3)) (w64 (a0.p - a4))).bind fun x17 => (impl_productOf (vs x7 ((w64 (a3 + 1)).tmod 3) x14)).bind fun x19 => (impl_productOf (vs x11 ((w64 (a3 + 2)).tmod 3) x17)).bind fun x21 => if 0 ≤ a2 ∧ a2 < ((x1.set a1.toNat x19).length : Int) then ((impl_kept ((x1.set a1.toNat x19).set a2.toNat x21)).bind fun x26 => (impl_with a0 x26).bind fun x29 => some (x29)) else none) else none) else none) else none) else none
theorem impl_flip_ok {w0 : World} {a0 : Sch} {a1 : Int} {a2 : Int} {a3 : Int} {a4 : Int} {va0 : Value} (h0 : Ro (kf cProd) w0 va0 a0.ps) {r : Sch} (hF : impl_flip a0 a1 a2 a3 a4 = some r) :
    Calls Try.prog 90 [.agg ([.int .i64 a0.p, .int .i64 a0.n, .int .i64 a0.m, .int .i64 a0.k, va0]).toArray, .int .i64 a1, .int .i64 a2, .int .i64 a3, .int .i64 a4].toArray w0 fun e w => ∃ v, e = .returned v ∧ Below w0.heap.size w0 w ∧ ∃ u0, .agg [.int .i64 r.p, .int .i64 r.n, .int .i64 r.m, .int .i64 r.k, u0].toArray = v ∧ Fresh (kf cProd) 78 w0 w u0 r.ps := by
  refine calls_of (k := 76) Try.func90 rfl rfl (Nat.le_of_ble_eq_true rfl) fun a hf => ?_
  replace hf : Fr 76 a [(0, .agg ([.int .i64 a0.p, .int .i64 a0.n, .int .i64 a0.m, .int .i64 a0.k, va0]).toArray), (1, .int .i64 a1), (2, .int .i64 a2), (3, .int .i64 a3), (4, .int .i64 a4)] := hf
  refine c_start fun w ρ hw => ?_
  unfold impl_flip at hF
  refine c_seq ?_
  refine c_region ?_
  refine st_ex hf rfl rfl (by decide) (r_box (cs := [.int .i64 a0.p, .int .i64 a0.n, .int .i64 a0.m, .int .i64 a0.k, va0]) 1 hw hf rfl rfl) fun a v w hf hΦ => ?_
  obtain ⟨g1, ρ, rfl, hw, hE, o1⟩ := hΦ
  have o3 : Ow (kf cProd) 78 ρ w w0.heap.size 3 (.slice none 0 0) [] := Ow.nil _ _ _ _ _ _
  refine st_ex hf rfl rfl (by decide) (r_alloc (cs := [.int .i64 0, .int .i64 0, .int .i64 0, .int .i64 0, (.slice none 0 0)]) 2 ze28 rfl hw) fun a v w hf hΦ => ?_
  obtain ⟨g2, ρ, rfl, hw, hE, o2⟩ := hΦ
  replace o1 := o1.ext hE
  replace o3 := o3.ext hE
  refine c_nt ?_
  refine c_seq ?_
  refine c_region ?_
  refine st hf rfl rfl (by decide) (r_fa fa28_4 hf rfl) fun a hf => ?_
  refine st hf rfl rfl (by decide) (r_load_cell ty26 hf rfl (o1.cl.at_ 4 _ rfl)) fun a hf => ?_
  obtain ⟨x1, hx2, hF⟩ := of_bind hF
  refine st_fn 4 hw hf rfl rfl (by decide) (r_fn en76 hf rfl) (slices_Clone_76_ok (h0.now hw) hx2) fun a v w ρ hf hw hE hN hΦ => ?_
  obtain ⟨u3, rfl, hr4⟩ := hΦ
  replace o1 := o1.ext hE
  replace o3 := o3.ext hE
  replace o2 := o2.ext hE
  have o4 := hN hr4
  refine st hf rfl rfl (by decide) (r_assign hf rfl) fun a hf => ?_
  refine c_nt ?_
  refine c_seq ?_
  obtain ⟨hc5, hF⟩ := of_guard hF
  obtain ⟨x7, hx8, hF⟩ := of_bind hF
  obtain ⟨hc9, hF⟩ := of_guard hF
  obtain ⟨x11, hx12, hF⟩ := of_bind hF
  replace hf : Fr 76 a [(1, .int .i64 a1), (2, .int .i64 a2), (3, .int .i64 a3), (4, .int .i64 a4), (5, .pointer (some ((⟨g1, 0, none⟩ : Addr).add 0))), (10, .pointer (some ((⟨g2, 0, none⟩ : Addr).add 0))), (11, u3)] := hf.sub ⟨rfl, rfl, rfl, rfl, rfl, rfl, rfl, trivial⟩
  refine c_drawL (h := 12) mixed (by kernel_rfl) (by kernel_rfl) (fun ρ w => Va ρ w 1 g1 28 ([.int .i64 a0.p, .int .i64 a0.n, .int .i64 a0.m, .int .i64 a0.k, va0]) ∧ Va ρ w 2 g2 28 ([.int .i64 0, .int .i64 0, .int .i64 0, .int .i64 0, (.slice none 0 0)]) ∧ Ow (kf cProd) 78 ρ w w0.heap.size 3 (.slice none 0 0) ([] : List Prod) ∧ Ow (kf cProd) 78 ρ w w0.heap.size 4 u3 x1) ?_ [fun ρ w v => u3 = v, fun ρ w v => .int .i64 a1 = v, fun ρ w v => ∃ ad6, .pointer (some (ad6.add (a1.toNat * 27))) = v ∧ Ce ρ w 4 u3 x1.length ad6 (a1.toNat * 27) (cProd.enc (gl zProd x1 a1)), fun ρ w v => .agg (cProd.enc (gl zProd x1 a1)).toArray = v, fun ρ w v => .agg (cForms.enc x7).toArray = v, fun ρ w v => u3 = v, fun ρ w v => .int .i64 a2 = v, fun ρ w v => ∃ ad10, .pointer (some (ad10.add (a2.toNat * 27))) = v ∧ Ce ρ w 4 u3 x1.length ad10 (a2.toNat * 27) (cProd.enc (gl zProd x1 a2)), fun ρ w v => .agg (cProd.enc (gl zProd x1 a2)).toArray = v, fun ρ w v => .agg (cForms.enc x11).toArray = v, fun ρ w v => ∃ g9, .pointer (some ((⟨g9, 0, none⟩ : Addr).add 0)) = v ∧ Va ρ w 9 g9 91 (cForms.enc zForms), fun ρ w v => ∃ g10, .pointer (some ((⟨g10, 0, none⟩ : Addr).add 0)) = v ∧ Va ρ w 10 g10 91 (cForms.enc zForms)] ?_ hw ⟨o1, o2, o3, o4⟩ hf ?_ ?_
  · intro ρ w ρ' w' hE hG
    obtain ⟨o1, o2, o3, o4⟩ := hG
    exact ⟨o1.ext hE, o2.ext hE, o3.ext hE, o4.ext hE⟩
  · exact LastsL.cons (fun _ _ _ _ _ _ h => h) <| LastsL.cons (fun _ _ _ _ _ _ h => h) <| LastsL.cons (fun _ _ _ _ _ hE h => by obtain ⟨ad6, h, hl6⟩ := h; exact ⟨_, h, hl6.ext hE⟩) <| LastsL.cons (fun _ _ _ _ _ _ h => h) <| LastsL.cons (fun _ _ _ _ _ _ h => h) <| LastsL.cons (fun _ _ _ _ _ _ h => h) <| LastsL.cons (fun _ _ _ _ _ _ h => h) <| LastsL.cons (fun _ _ _ _ _ hE h => by obtain ⟨ad10, h, hl10⟩ := h; exact ⟨_, h, hl10.ext hE⟩) <| LastsL.cons (fun _ _ _ _ _ _ h => h) <| LastsL.cons (fun _ _ _ _ _ _ h => h) <| LastsL.cons (fun _ _ _ _ _ hE h => by obtain ⟨g9, h, o9⟩ := h; exact ⟨_, h, o9.ext hE⟩) <| LastsL.cons (fun _ _ _ _ _ hE h => by obtain ⟨g10, h, o10⟩ := h; exact ⟨_, h, o10.ext hE⟩) <| LastsL.nil
  · refine StepsB.cons ?_ <| StepsB.cons ?_ <| StepsB.cons ?_ <| StepsB.cons ?_ <| StepsB.cons ?_ <| StepsB.cons ?_ <| StepsB.cons ?_ <| StepsB.cons ?_ <| StepsB.cons ?_ <| StepsB.cons ?_ <| StepsB.cons ?_ <| StepsB.cons ?_ <| StepsB.nil
    · intro ρ w a hw hG hf hd K hK
      obtain ⟨o1, o2, o3, o4⟩ := hG
      exact d_val (R := fun ρ w v => u3 = v) hw (wn rfl) (r_move hf rfl) rfl rfl hK
    · intro ρ w a hw hG hf hd K hK
      obtain ⟨o1, o2, o3, o4⟩ := hG
      exact d_val (R := fun ρ w v => .int .i64 a1 = v) hw (wn rfl) (r_move hf rfl) rfl rfl hK
    · intro ρ w a hw hG hf hd K hK
      obtain ⟨o1, o2, o3, o4⟩ := hG
      obtain ⟨_, ht, rfl⟩ := hd 0 (by kernel_rfl)
      replace hf := hf.more ht
      obtain ⟨_, ht, rfl⟩ := hd 1 (by kernel_rfl)
      replace hf := hf.more ht
      obtain ⟨ad6, hl6⟩ := Ow.ce (d := cProd) o4 zProd hc5.1 hc5.2
      exact d_val (R := fun ρ w v => ∃ ad6, .pointer (some (ad6.add (a1.toNat * 27))) = v ∧ Ce ρ w 4 u3 x1.length ad6 (a1.toNat * 27) (cProd.enc (gl zProd x1 a1))) hw (wn rfl) (r_idx Try.underlying26 sz78 hf rfl hl6.at_ rfl hc5.1 hc5.2) rfl ⟨_, rfl, hl6⟩ hK
    · intro ρ w a hw hG hf hd K hK
      obtain ⟨o1, o2, o3, o4⟩ := hG
      obtain ⟨_, ht, ⟨ad6, rfl, hl6⟩⟩ := hd 2 (by kernel_rfl)
      replace hf := hf.more ht
      exact d_val (R := fun ρ w v => .agg (cProd.enc (gl zProd x1 a1)).toArray = v) hw (wn rfl) (r_load_agg ty78 hf rfl hl6.co.cl (cProd.len _)) rfl rfl hK
    · intro ρ w a hw hG hf hd K hK
      obtain ⟨o1, o2, o3, o4⟩ := hG
      obtain ⟨_, ht, rfl⟩ := hd 3 (by kernel_rfl)
      replace hf := hf.more ht
      refine d_call (R := fun ρ w v => .agg (cForms.enc x7).toArray = v) hw (wn rfl) (r_fn en87 hf rfl) (impl_factors_ok  hx8) rfl (fun v w' hΦ => ?_) hK
      obtain ⟨hb, hΦ⟩ := hΦ
      obtain rfl := hΦ
      have hE := Ext.new (ρ := ρ) 6 hb
      exact ⟨_, hw.new 6 hb, hE, rfl⟩
    · intro ρ w a hw hG hf hd K hK
      obtain ⟨o1, o2, o3, o4⟩ := hG
      exact d_val (R := fun ρ w v => u3 = v) hw (wn rfl) (r_move hf rfl) rfl rfl hK
    · intro ρ w a hw hG hf hd K hK
      obtain ⟨o1, o2, o3, o4⟩ := hG
      exact d_val (R := fun ρ w v => .int .i64 a2 = v) hw (wn rfl) (r_move hf rfl) rfl rfl hK
    · intro ρ w a hw hG hf hd K hK
      obtain ⟨o1, o2, o3, o4⟩ := hG
      obtain ⟨_, ht, rfl⟩ := hd 5 (by kernel_rfl)
      replace hf := hf.more ht
      obtain ⟨_, ht, rfl⟩ := hd 6 (by kernel_rfl)
      replace hf := hf.more ht
      obtain ⟨ad10, hl10⟩ := Ow.ce (d := cProd) o4 zProd hc9.1 hc9.2
      exact d_val (R := fun ρ w v => ∃ ad10, .pointer (some (ad10.add (a2.toNat * 27))) = v ∧ Ce ρ w 4 u3 x1.length ad10 (a2.toNat * 27) (cProd.enc (gl zProd x1 a2))) hw (wn rfl) (r_idx Try.underlying26 sz78 hf rfl hl10.at_ rfl hc9.1 hc9.2) rfl ⟨_, rfl, hl10⟩ hK
    · intro ρ w a hw hG hf hd K hK
      obtain ⟨o1, o2, o3, o4⟩ := hG
      obtain ⟨_, ht, ⟨ad10, rfl, hl10⟩⟩ := hd 7 (by kernel_rfl)
      replace hf := hf.more ht
      exact d_val (R := fun ρ w v => .agg (cProd.enc (gl zProd x1 a2)).toArray = v) hw (wn rfl) (r_load_agg ty78 hf rfl hl10.co.cl (cProd.len _)) rfl rfl hK
    · intro ρ w a hw hG hf hd K hK
      obtain ⟨o1, o2, o3, o4⟩ := hG
      obtain ⟨_, ht, rfl⟩ := hd 8 (by kernel_rfl)
      replace hf := hf.more ht
      refine d_call (R := fun ρ w v => .agg (cForms.enc x11).toArray = v) hw (wn rfl) (r_fn en87 hf rfl) (impl_factors_ok  hx12) rfl (fun v w' hΦ => ?_) hK
      obtain ⟨hb, hΦ⟩ := hΦ
      obtain rfl := hΦ
      have hE := Ext.new (ρ := ρ) 8 hb
      exact ⟨_, hw.new 8 hb, hE, rfl⟩
    · intro ρ w a hw hG hf hd K hK
      obtain ⟨o1, o2, o3, o4⟩ := hG
      refine d_ex (R := fun ρ w v => ∃ g9, .pointer (some ((⟨g9, 0, none⟩ : Addr).add 0)) = v ∧ Va ρ w 9 g9 91 (cForms.enc zForms)) hw (wn rfl) (r_alloc (cs := cForms.enc zForms) 9 ze91 rfl hw) rfl (fun v w' hΦ => ?_) hK
      obtain ⟨g9, ρ, rfl, hw, hE, o9⟩ := hΦ
      exact ⟨_, hw, hE, _, rfl, o9⟩
    · intro ρ w a hw hG hf hd K hK
      obtain ⟨o1, o2, o3, o4⟩ := hG
      refine d_ex (R := fun ρ w v => ∃ g10, .pointer (some ((⟨g10, 0, none⟩ : Addr).add 0)) = v ∧ Va ρ w 10 g10 91 (cForms.enc zForms)) hw (wn rfl) (r_alloc (cs := cForms.enc zForms) 10 ze91 rfl hw) rfl (fun v w' hΦ => ?_) hK
      obtain ⟨g10, ρ, rfl, hw, hE, o10⟩ := hΦ
      exact ⟨_, hw, hE, _, rfl, o10⟩
  · intro ρ w a hw hG hf hd
    obtain ⟨o1, o2, o3, o4⟩ := hG
    replace hf : Fr 76 a [(1, .int .i64 a1), (2, .int .i64 a2), (3, .int .i64 a3), (4, .int .i64 a4), (5, .pointer (some ((⟨g1, 0, none⟩ : Addr).add 0))), (10, .pointer (some ((⟨g2, 0, none⟩ : Addr).add 0))), (11, u3)] := hf
    obtain ⟨_, ht, rfl⟩ := hd 4 (by decide)
    replace hf := hf.more ht
    obtain ⟨_, ht, rfl⟩ := hd 9 (by decide)
    replace hf := hf.more ht
    obtain ⟨_, ht, ⟨g9, rfl, o9⟩⟩ := hd 10 (by decide)
    replace hf := hf.more ht
    obtain ⟨_, ht, ⟨g10, rfl, o10⟩⟩ := hd 11 (by decide)
    replace hf := hf.more ht
    refine st_skip hf rfl rfl (r_store_w (cs' := cForms.enc x7) hw o9 (by decide) ty91 (cForms.len _) (cForms.len _) (cForms.one _) hf rfl rfl rfl) fun a w hf hΦ => ?_
    obtain ⟨hw, hA, o9⟩ := hΦ
    replace o1 := o1.adv hA (by decide)
    replace o2 := o2.adv hA (by decide)
    replace o3 := o3.adv hA (by decide)
    replace o4 := o4.adv hA (by decide)
    replace o10 := o10.adv hA (by decide)
    refine st_skip hf rfl rfl (r_store_w (cs' := cForms.enc x11) hw o10 (by decide) ty91 (cForms.len _) (cForms.len _) (cForms.one _) hf rfl rfl rfl) fun a w hf hΦ => ?_
    obtain ⟨hw, hA, o10⟩ := hΦ
    replace o1 := o1.adv hA (by decide)
    replace o2 := o2.adv hA (by decide)
    replace o3 := o3.adv hA (by decide)
    replace o4 := o4.adv hA (by decide)
    replace o9 := o9.adv hA (by decide)
    refine c_nt ?_
    refine c_seq ?_
    refine c_region ?_
    refine st hf rfl rfl (by decide) (r_move hf rfl) fun a hf => ?_
    refine st hf rfl rfl (by decide) (r_add hf rfl rfl) fun a hf => ?_
    refine st hf rfl rfl (by decide) (r_rem hf rfl rfl (by decide)) fun a hf => ?_
    refine st hf rfl rfl (by decide) (r_move hf rfl) fun a hf => ?_
    refine st hf rfl rfl (by decide) (r_add hf rfl rfl) fun a hf => ?_
    refine st hf rfl rfl (by decide) (r_rem hf rfl rfl (by decide)) fun a hf => ?_
    refine st hf rfl rfl (by decide) (r_assign hf rfl) fun a hf => ?_
    refine st hf rfl rfl (by decide) (r_assign hf rfl) fun a hf => ?_
    refine c_nt ?_
    refine c_seq ?_
    obtain ⟨hc13, hF⟩ := of_guard hF
    obtain ⟨x14, hx15, hF⟩ := of_bind hF
    replace hf : Fr 76 a [(1, .int .i64 a1), (2, .int .i64 a2), (4, .int .i64 a4), (5, .pointer (some ((⟨g1, 0, none⟩ : Addr).add 0))), (10, .pointer (some ((⟨g2, 0, none⟩ : Addr).add 0))), (11, u3), (12, .pointer (some ((⟨g9, 0, none⟩ : Addr).add 0))), (13, .pointer (some ((⟨g10, 0, none⟩ : Addr).add 0))), (14, .int .i64 ((w64 (a3 + 1)).tmod 3)), (15, .int .i64 ((w64 (a3 + 2)).tmod 3))] := hf.sub ⟨rfl, rfl, rfl, rfl, rfl, rfl, rfl, rfl, rfl, rfl, trivial⟩
    refine c_drawL (h := 11) mixed (by kernel_rfl) (by kernel_rfl) (fun ρ w => Va ρ w 1 g1 28 ([.int .i64 a0.p, .int .i64 a0.n, .int .i64 a0.m, .int .i64 a0.k, va0]) ∧ Va ρ w 2 g2 28 ([.int .i64 0, .int .i64 0, .int .i64 0, .int .i64 0, (.slice none 0 0)]) ∧ Ow (kf cProd) 78 ρ w w0.heap.size 3 (.slice none 0 0) ([] : List Prod) ∧ Ow (kf cProd) 78 ρ w w0.heap.size 4 u3 x1 ∧ Va ρ w 9 g9 91 (cForms.enc x7) ∧ Va ρ w 10 g10 91 (cForms.enc x11)) ?_ [fun ρ w v => .int .i64 ((w64 (a3 + 1)).tmod 3) = v, fun ρ w v => .pointer (some ((⟨g1, 0, none⟩ : Addr).add (0 + 0))) = v, fun ρ w v => .int .i64 a0.p = v, fun ρ w v => .int .i64 ((w64 (a3 + 1)).tmod 3) = v, fun ρ w v => .pointer (some ((⟨g9, 0, none⟩ : Addr).add (0 + ((w64 (a3 + 1)).tmod 3).toNat * 9))) = v, fun ρ w v => .agg (cForm.enc (vg zForm x7 ((w64 (a3 + 1)).tmod 3))).toArray = v, fun ρ w v => .int .i64 ((w64 (a3 + 1)).tmod 3) = v, fun ρ w v => .pointer (some ((⟨g10, 0, none⟩ : Addr).add (0 + ((w64 (a3 + 1)).tmod 3).toNat * 9))) = v, fun ρ w v => .agg (cForm.enc (vg zForm x11 ((w64 (a3 + 1)).tmod 3))).toArray = v, fun ρ w v => .int .i64 a4 = v, fun ρ w v => .agg (cForm.enc x14).toArray = v] ?_ hw ⟨o1, o2, o3, o4, o9, o10⟩ hf ?_ ?_
    · intro ρ w ρ' w' hE hG
      obtain ⟨o1, o2, o3, o4, o9, o10⟩ := hG
      exact ⟨o1.ext hE, o2.ext hE, o3.ext hE, o4.ext hE, o9.ext hE, o10.ext hE⟩
    · exact LastsL.cons (fun _ _ _ _ _ _ h => h) <| LastsL.cons (fun _ _ _ _ _ _ h => h) <| LastsL.cons (fun _ _ _ _ _ _ h => h) <| LastsL.cons (fun _ _ _ _ _ _ h => h) <| LastsL.cons (fun _ _ _ _ _ _ h => h) <| LastsL.cons (fun _ _ _ _ _ _ h => h) <| LastsL.cons (fun _ _ _ _ _ _ h => h) <| LastsL.cons (fun _ _ _ _ _ _ h => h) <| LastsL.cons (fun _ _ _ _ _ _ h => h) <| LastsL.cons (fun _ _ _ _ _ _ h => h) <| LastsL.cons (fun _ _ _ _ _ _ h => h) <| LastsL.nil
    · refine StepsB.cons ?_ <| StepsB.cons ?_ <| StepsB.cons ?_ <| StepsB.cons ?_ <| StepsB.cons ?_ <| StepsB.cons ?_ <| StepsB.cons ?_ <| StepsB.cons ?_ <| StepsB.cons ?_ <| StepsB.cons ?_ <| StepsB.cons ?_ <| StepsB.nil
      · intro ρ w a hw hG hf hd K hK
        obtain ⟨o1, o2, o3, o4, o9, o10⟩ := hG
        exact d_val (R := fun ρ w v => .int .i64 ((w64 (a3 + 1)).tmod 3) = v) hw (wn rfl) (r_move hf rfl) rfl rfl hK
      · intro ρ w a hw hG hf hd K hK
        obtain ⟨o1, o2, o3, o4, o9, o10⟩ := hG
        exact d_val (R := fun ρ w v => .pointer (some ((⟨g1, 0, none⟩ : Addr).add (0 + 0))) = v) hw (wn rfl) (r_fa fa28_0 hf rfl) rfl rfl hK
      · intro ρ w a hw hG hf hd K hK
        obtain ⟨o1, o2, o3, o4, o9, o10⟩ := hG
        obtain ⟨_, ht, rfl⟩ := hd 1 (by kernel_rfl)
        replace hf := hf.more ht
        exact d_val (R := fun ρ w v => .int .i64 a0.p = v) hw (wn rfl) (r_load_cell ty2 hf rfl (o1.cl.at_ 0 _ rfl)) rfl rfl hK
      · intro ρ w a hw hG hf hd K hK
        obtain ⟨o1, o2, o3, o4, o9, o10⟩ := hG
        exact d_val (R := fun ρ w v => .int .i64 ((w64 (a3 + 1)).tmod 3) = v) hw (wn rfl) (r_move hf rfl) rfl rfl hK
      · intro ρ w a hw hG hf hd K hK
        obtain ⟨o1, o2, o3, o4, o9, o10⟩ := hG
        obtain ⟨_, ht, rfl⟩ := hd 3 (by kernel_rfl)
        replace hf := hf.more ht
        exact d_val (R := fun ρ w v => .pointer (some ((⟨g9, 0, none⟩ : Addr).add (0 + ((w64 (a3 + 1)).tmod 3).toNat * 9))) = v) hw (wn rfl) (r_indexAddr_arr Try.underlying91 sz39 hf rfl rfl hc13.1 hc13.2) rfl rfl hK
      · intro ρ w a hw hG hf hd K hK
        obtain ⟨o1, o2, o3, o4, o9, o10⟩ := hG
        obtain ⟨_, ht, rfl⟩ := hd 4 (by kernel_rfl)
        replace hf := hf.more ht
        exact d_val (R := fun ρ w v => .agg (cForm.enc (vg zForm x7 ((w64 (a3 + 1)).tmod 3))).toArray = v) hw (wn rfl) (r_load_agg ty39 hf rfl (o9.cl.lens (Lens.vec zForm cForm ((w64 (a3 + 1)).tmod 3) hc13.1 hc13.2)) (cForm.len _)) rfl rfl hK
      · intro ρ w a hw hG hf hd K hK
        obtain ⟨o1, o2, o3, o4, o9, o10⟩ := hG
        exact d_val (R := fun ρ w v => .int .i64 ((w64 (a3 + 1)).tmod 3) = v) hw (wn rfl) (r_move hf rfl) rfl rfl hK
      · intro ρ w a hw hG hf hd K hK
        obtain ⟨o1, o2, o3, o4, o9, o10⟩ := hG
        obtain ⟨_, ht, rfl⟩ := hd 6 (by kernel_rfl)
        replace hf := hf.more ht
        exact d_val (R := fun ρ w v => .pointer (some ((⟨g10, 0, none⟩ : Addr).add (0 + ((w64 (a3 + 1)).tmod 3).toNat * 9))) = v) hw (wn rfl) (r_indexAddr_arr Try.underlying91 sz39 hf rfl rfl hc13.1 hc13.2) rfl rfl hK
      · intro ρ w a hw hG hf hd K hK
        obtain ⟨o1, o2, o3, o4, o9, o10⟩ := hG
        obtain ⟨_, ht, rfl⟩ := hd 7 (by kernel_rfl)
        replace hf := hf.more ht
        exact d_val (R := fun ρ w v => .agg (cForm.enc (vg zForm x11 ((w64 (a3 + 1)).tmod 3))).toArray = v) hw (wn rfl) (r_load_agg ty39 hf rfl (o10.cl.lens (Lens.vec zForm cForm ((w64 (a3 + 1)).tmod 3) hc13.1 hc13.2)) (cForm.len _)) rfl rfl hK
      · intro ρ w a hw hG hf hd K hK
        obtain ⟨o1, o2, o3, o4, o9, o10⟩ := hG
        exact d_val (R := fun ρ w v => .int .i64 a4 = v) hw (wn rfl) (r_move hf rfl) rfl rfl hK
      · intro ρ w a hw hG hf hd K hK
        obtain ⟨o1, o2, o3, o4, o9, o10⟩ := hG
        obtain ⟨_, ht, rfl⟩ := hd 2 (by kernel_rfl)
        replace hf := hf.more ht
        obtain ⟨_, ht, rfl⟩ := hd 5 (by kernel_rfl)
        replace hf := hf.more ht
        obtain ⟨_, ht, rfl⟩ := hd 8 (by kernel_rfl)
        replace hf := hf.more ht
        obtain ⟨_, ht, rfl⟩ := hd 9 (by kernel_rfl)
        replace hf := hf.more ht
        refine d_call (R := fun ρ w v => .agg (cForm.enc x14).toArray = v) hw (wn rfl) (r_fn en77 hf rfl) (impl_sum_ok  hx15) rfl (fun v w' hΦ => ?_) hK
        obtain ⟨hb, hΦ⟩ := hΦ
        obtain rfl := hΦ
        have hE := Ext.new (ρ := ρ) 11 hb
        exact ⟨_, hw.new 11 hb, hE, rfl⟩
    · intro ρ w a hw hG hf hd
      obtain ⟨o1, o2, o3, o4, o9, o10⟩ := hG
      replace hf : Fr 76 a [(1, .int .i64 a1), (2, .int .i64 a2), (4, .int .i64 a4), (5, .pointer (some ((⟨g1, 0, none⟩ : Addr).add 0))), (10, .pointer (some ((⟨g2, 0, none⟩ : Addr).add 0))), (11, u3), (12, .pointer (some ((⟨g9, 0, none⟩ : Addr).add 0))), (13, .pointer (some ((⟨g10, 0, none⟩ : Addr).add 0))), (14, .int .i64 ((w64 (a3 + 1)).tmod 3)), (15, .int .i64 ((w64 (a3 + 2)).tmod 3))] := hf
      obtain ⟨_, ht, rfl⟩ := hd 0 (by decide)
      replace hf := hf.more ht
      obtain ⟨_, ht, rfl⟩ := hd 10 (by decide)
      replace hf := hf.more ht
      refine st hf rfl rfl (by decide) (r_indexAddr_arr Try.underlying91 sz39 hf rfl rfl hc13.1 hc13.2) fun a hf => ?_
      refine st_skip hf rfl rfl (r_store_l (b := x14) hw o9 (by decide) (Lens.vec zForm cForm ((w64 (a3 + 1)).tmod 3) hc13.1 hc13.2) (by simp only [Nat.zero_add] <;> rfl) ty39 hf rfl rfl rfl) fun a w hf hΦ => ?_
      obtain ⟨hw, hA, o9⟩ := hΦ
      replace o1 := o1.adv hA (by decide)
      replace o2 := o2.adv hA (by decide)
      replace o3 := o3.adv hA (by decide)
      replace o4 := o4.adv hA (by decide)
      replace o10 := o10.adv hA (by decide)
      refine c_nt ?_
      refine c_seq ?_
      obtain ⟨hc16, hF⟩ := of_guard hF
      obtain ⟨x17, hx18, hF⟩ := of_bind hF
      replace hf : Fr 76 a [(1, .int .i64 a1), (2, .int .i64 a2), (4, .int .i64 a4), (5, .pointer (some ((⟨g1, 0, none⟩ : Addr).add 0))), (10, .pointer (some ((⟨g2, 0, none⟩ : Addr).add 0))), (11, u3), (12, .pointer (some ((⟨g9, 0, none⟩ : Addr).add 0))), (13, .pointer (some ((⟨g10, 0, none⟩ : Addr).add 0))), (15, .int .i64 ((w64 (a3 + 2)).tmod 3))] := hf.sub ⟨rfl, rfl, rfl, rfl, rfl, rfl, rfl, rfl, rfl, trivial⟩
      refine c_drawL (h := 14) mixed (by kernel_rfl) (by kernel_rfl) (fun ρ w => Va ρ w 1 g1 28 ([.int .i64 a0.p, .int .i64 a0.n, .int .i64 a0.m, .int .i64 a0.k, va0]) ∧ Va ρ w 2 g2 28 ([.int .i64 0, .int .i64 0, .int .i64 0, .int .i64 0, (.slice none 0 0)]) ∧ Ow (kf cProd) 78 ρ w w0.heap.size 3 (.slice none 0 0) ([] : List Prod) ∧ Ow (kf cProd) 78 ρ w w0.heap.size 4 u3 x1 ∧ Va ρ w 9 g9 91 (cForms.enc (vs x7 ((w64 (a3 + 1)).tmod 3) x14)) ∧ Va ρ w 10 g10 91 (cForms.enc x11)) ?_ [fun ρ w v => .int .i64 ((w64 (a3 + 2)).tmod 3) = v, fun ρ w v => .pointer (some ((⟨g1, 0, none⟩ : Addr).add (0 + 0))) = v, fun ρ w v => .int .i64 a0.p = v, fun ρ w v => .int .i64 ((w64 (a3 + 2)).tmod 3) = v, fun ρ w v => .pointer (some ((⟨g10, 0, none⟩ : Addr).add (0 + ((w64 (a3 + 2)).tmod 3).toNat * 9))) = v, fun ρ w v => .agg (cForm.enc (vg zForm x11 ((w64 (a3 + 2)).tmod 3))).toArray = v, fun ρ w v => .int .i64 ((w64 (a3 + 2)).tmod 3) = v, fun ρ w v => .pointer (some ((⟨g9, 0, none⟩ : Addr).add (0 + ((w64 (a3 + 2)).tmod 3).toNat * 9))) = v, fun ρ w v => .agg (cForm.enc (vg zForm (vs x7 ((w64 (a3 + 1)).tmod 3) x14) ((w64 (a3 + 2)).tmod 3))).toArray = v, fun ρ w v => .pointer (some ((⟨g1, 0, none⟩ : Addr).add (0 + 0))) = v, fun ρ w v => .int .i64 a0.p = v, fun ρ w v => .int .i64 a4 = v, fun ρ w v => .int .i64 (w64 (a0.p - a4)) = v, fun ρ w v => .agg (cForm.enc x17).toArray = v] ?_ hw ⟨o1, o2, o3, o4, o9, o10⟩ hf ?_ ?_
      · intro ρ w ρ' w' hE hG
        obtain ⟨o1, o2, o3, o4, o9, o10⟩ := hG
        exact ⟨o1.ext hE, o2.ext hE, o3.ext hE, o4.ext hE, o9.ext hE, o10.ext hE⟩
      · exact LastsL.cons (fun _ _ _ _ _ _ h => h) <| LastsL.cons (fun _ _ _ _ _ _ h => h) <| LastsL.cons (fun _ _ _ _ _ _ h => h) <| LastsL.cons (fun _ _ _ _ _ _ h => h) <| LastsL.cons (fun _ _ _ _ _ _ h => h) <| LastsL.cons (fun _ _ _ _ _ _ h => h) <| LastsL.cons (fun _ _ _ _ _ _ h => h) <| LastsL.cons (fun _ _ _ _ _ _ h => h) <| LastsL.cons (fun _ _ _ _ _ _ h => h) <| LastsL.cons (fun _ _ _ _ _ _ h => h) <| LastsL.cons (fun _ _ _ _ _ _ h => h) <| LastsL.cons (fun _ _ _ _ _ _ h => h) <| LastsL.cons (fun _ _ _ _ _ _ h => h) <| LastsL.cons (fun _ _ _ _ _ _ h => h) <| LastsL.nil
      · refine StepsB.cons ?_ <| StepsB.cons ?_ <| StepsB.cons ?_ <| StepsB.cons ?_ <| StepsB.cons ?_ <| StepsB.cons ?_ <| StepsB.cons ?_ <| StepsB.cons ?_ <| StepsB.cons ?_ <| StepsB.cons ?_ <| StepsB.cons ?_ <| StepsB.cons ?_ <| StepsB.cons ?_ <| StepsB.cons ?_ <| StepsB.nil
        · intro ρ w a hw hG hf hd K hK
          obtain ⟨o1, o2, o3, o4, o9, o10⟩ := hG
          exact d_val (R := fun ρ w v => .int .i64 ((w64 (a3 + 2)).tmod 3) = v) hw (wn rfl) (r_move hf rfl) rfl rfl hK
        · intro ρ w a hw hG hf hd K hK
          obtain ⟨o1, o2, o3, o4, o9, o10⟩ := hG
          exact d_val (R := fun ρ w v => .pointer (some ((⟨g1, 0, none⟩ : Addr).add (0 + 0))) = v) hw (wn rfl) (r_fa fa28_0 hf rfl) rfl rfl hK
        · intro ρ w a hw hG hf hd K hK
          obtain ⟨o1, o2, o3, o4, o9, o10⟩ := hG
          obtain ⟨_, ht, rfl⟩ := hd 1 (by kernel_rfl)
          replace hf := hf.more ht
          exact d_val (R := fun ρ w v => .int .i64 a0.p = v) hw (wn rfl) (r_load_cell ty2 hf rfl (o1.cl.at_ 0 _ rfl)) rfl rfl hK
        · intro ρ w a hw hG hf hd K hK
          obtain ⟨o1, o2, o3, o4, o9, o10⟩ := hG
          exact d_val (R := fun ρ w v => .int .i64 ((w64 (a3 + 2)).tmod 3) = v) hw (wn rfl) (r_move hf rfl) rfl rfl hK
        · intro ρ w a hw hG hf hd K hK
          obtain ⟨o1, o2, o3, o4, o9, o10⟩ := hG
          obtain ⟨_, ht, rfl⟩ := hd 3 (by kernel_rfl)
          replace hf := hf.more ht
          exact d_val (R := fun ρ w v => .pointer (some ((⟨g10, 0, none⟩ : Addr).add (0 + ((w64 (a3 + 2)).tmod 3).toNat * 9))) = v) hw (wn rfl) (r_indexAddr_arr Try.underlying91 sz39 hf rfl rfl hc16.1 hc16.2) rfl rfl hK
        · intro ρ w a hw hG hf hd K hK
          obtain ⟨o1, o2, o3, o4, o9, o10⟩ := hG
          obtain ⟨_, ht, rfl⟩ := hd 4 (by kernel_rfl)
          replace hf := hf.more ht
          exact d_val (R := fun ρ w v => .agg (cForm.enc (vg zForm x11 ((w64 (a3 + 2)).tmod 3))).toArray = v) hw (wn rfl) (r_load_agg ty39 hf rfl (o10.cl.lens (Lens.vec zForm cForm ((w64 (a3 + 2)).tmod 3) hc16.1 hc16.2)) (cForm.len _)) rfl rfl hK
        · intro ρ w a hw hG hf hd K hK
          obtain ⟨o1, o2, o3, o4, o9, o10⟩ := hG
          exact d_val (R := fun ρ w v => .int .i64 ((w64 (a3 + 2)).tmod 3) = v) hw (wn rfl) (r_move hf rfl) rfl rfl hK
        · intro ρ w a hw hG hf hd K hK
          obtain ⟨o1, o2, o3, o4, o9, o10⟩ := hG
          obtain ⟨_, ht, rfl⟩ := hd 6 (by kernel_rfl)
          replace hf := hf.more ht
          exact d_val (R := fun ρ w v => .pointer (some ((⟨g9, 0, none⟩ : Addr).add (0 + ((w64 (a3 + 2)).tmod 3).toNat * 9))) = v) hw (wn rfl) (r_indexAddr_arr Try.underlying91 sz39 hf rfl rfl hc16.1 hc16.2) rfl rfl hK
        · intro ρ w a hw hG hf hd K hK
          obtain ⟨o1, o2, o3, o4, o9, o10⟩ := hG
          obtain ⟨_, ht, rfl⟩ := hd 7 (by kernel_rfl)
          replace hf := hf.more ht
          exact d_val (R := fun ρ w v => .agg (cForm.enc (vg zForm (vs x7 ((w64 (a3 + 1)).tmod 3) x14) ((w64 (a3 + 2)).tmod 3))).toArray = v) hw (wn rfl) (r_load_agg ty39 hf rfl (o9.cl.lens (Lens.vec zForm cForm ((w64 (a3 + 2)).tmod 3) hc16.1 hc16.2)) (cForm.len _)) rfl rfl hK
        · intro ρ w a hw hG hf hd K hK
          obtain ⟨o1, o2, o3, o4, o9, o10⟩ := hG
          exact d_val (R := fun ρ w v => .pointer (some ((⟨g1, 0, none⟩ : Addr).add (0 + 0))) = v) hw (wn rfl) (r_fa fa28_0 hf rfl) rfl rfl hK
        · intro ρ w a hw hG hf hd K hK
          obtain ⟨o1, o2, o3, o4, o9, o10⟩ := hG
          obtain ⟨_, ht, rfl⟩ := hd 9 (by kernel_rfl)
          replace hf := hf.more ht
          exact d_val (R := fun ρ w v => .int .i64 a0.p = v) hw (wn rfl) (r_load_cell ty2 hf rfl (o1.cl.at_ 0 _ rfl)) rfl rfl hK
        · intro ρ w a hw hG hf hd K hK
          obtain ⟨o1, o2, o3, o4, o9, o10⟩ := hG
          exact d_val (R := fun ρ w v => .int .i64 a4 = v) hw (wn rfl) (r_move hf rfl) rfl rfl hK
        · intro ρ w a hw hG hf hd K hK
          obtain ⟨o1, o2, o3, o4, o9, o10⟩ := hG
          obtain ⟨_, ht, rfl⟩ := hd 10 (by kernel_rfl)
          replace hf := hf.more ht
          obtain ⟨_, ht, rfl⟩ := hd 11 (by kernel_rfl)
          replace hf := hf.more ht
          exact d_val (R := fun ρ w v => .int .i64 (w64 (a0.p - a4)) = v) hw (wn rfl) (r_sub hf rfl rfl) rfl rfl hK
        · intro ρ w a hw hG hf hd K hK
          obtain ⟨o1, o2, o3, o4, o9, o10⟩ := hG
          obtain ⟨_, ht, rfl⟩ := hd 2 (by kernel_rfl)
          replace hf := hf.more ht
          obtain ⟨_, ht, rfl⟩ := hd 5 (by kernel_rfl)
          replace hf := hf.more ht
          obtain ⟨_, ht, rfl⟩ := hd 8 (by kernel_rfl)
          replace hf := hf.more ht
          obtain ⟨_, ht, rfl⟩ := hd 12 (by kernel_rfl)
          replace hf := hf.more ht
          refine d_call (R := fun ρ w v => .agg (cForm.enc x17).toArray = v) hw (wn rfl) (r_fn en77 hf rfl) (impl_sum_ok  hx18) rfl (fun v w' hΦ => ?_) hK
          obtain ⟨hb, hΦ⟩ := hΦ
          obtain rfl := hΦ
          have hE := Ext.new (ρ := ρ) 12 hb
          exact ⟨_, hw.new 12 hb, hE, rfl⟩
      · intro ρ w a hw hG hf hd
        obtain ⟨o1, o2, o3, o4, o9, o10⟩ := hG
        replace hf : Fr 76 a [(1, .int .i64 a1), (2, .int .i64 a2), (4, .int .i64 a4), (5, .pointer (some ((⟨g1, 0, none⟩ : Addr).add 0))), (10, .pointer (some ((⟨g2, 0, none⟩ : Addr).add 0))), (11, u3), (12, .pointer (some ((⟨g9, 0, none⟩ : Addr).add 0))), (13, .pointer (some ((⟨g10, 0, none⟩ : Addr).add 0))), (15, .int .i64 ((w64 (a3 + 2)).tmod 3))] := hf
        obtain ⟨_, ht, rfl⟩ := hd 0 (by decide)
        replace hf := hf.more ht
        obtain ⟨_, ht, rfl⟩ := hd 13 (by decide)
        replace hf := hf.more ht
        refine st hf rfl rfl (by decide) (r_indexAddr_arr Try.underlying91 sz39 hf rfl rfl hc16.1 hc16.2) fun a hf => ?_
        refine st_skip hf rfl rfl (r_store_l (b := x17) hw o10 (by decide) (Lens.vec zForm cForm ((w64 (a3 + 2)).tmod 3) hc16.1 hc16.2) (by simp only [Nat.zero_add] <;> rfl) ty39 hf rfl rfl rfl) fun a w hf hΦ => ?_
        obtain ⟨hw, hA, o10⟩ := hΦ
        replace o1 := o1.adv hA (by decide)
        replace o2 := o2.adv hA (by decide)
        replace o3 := o3.adv hA (by decide)
        replace o4 := o4.adv hA (by decide)
        replace o9 := o9.adv hA (by decide)
        refine c_nt ?_
        refine c_seq ?_
        obtain ⟨x19, hx20, hF⟩ := of_bind hF
        obtain ⟨x21, hx22, hF⟩ := of_bind hF
        replace hf : Fr 76 a [(1, .int .i64 a1), (2, .int .i64 a2), (5, .pointer (some ((⟨g1, 0, none⟩ : Addr).add 0))), (10, .pointer (some ((⟨g2, 0, none⟩ : Addr).add 0))), (11, u3), (12, .pointer (some ((⟨g9, 0, none⟩ : Addr).add 0))), (13, .pointer (some ((⟨g10, 0, none⟩ : Addr).add 0)))] := hf.sub ⟨rfl, rfl, rfl, rfl, rfl, rfl, rfl, trivial⟩
        refine c_stage 10 [9] mixed (by kernel_rfl) (by kernel_rfl) (fun c ρ w => Va ρ w 1 g1 28 ([.int .i64 a0.p, .int .i64 a0.n, .int .i64 a0.m, .int .i64 a0.k, va0]) ∧ Va ρ w 2 g2 28 ([.int .i64 0, .int .i64 0, .int .i64 0, .int .i64 0, (.slice none 0 0)]) ∧ Ow (kf cProd) 78 ρ w w0.heap.size 3 (.slice none 0 0) ([] : List Prod) ∧ Va ρ w 9 g9 91 (cForms.enc (vs x7 ((w64 (a3 + 1)).tmod 3) x14)) ∧ Va ρ w 10 g10 91 (cForms.enc (vs x11 ((w64 (a3 + 2)).tmod 3) x17)) ∧ (c ≤ 0 → Ow (kf cProd) 78 ρ w w0.heap.size 4 u3 x1) ∧ (0 < c → Ow (kf cProd) 78 ρ w w0.heap.size 4 u3 (x1.set a1.toNat x19))) ?_ [fun c ρ w v => u3 = v, fun c ρ w v => .int .i64 a1 = v, fun c ρ w v => u3 = v, fun c ρ w v => .int .i64 a2 = v, fun c ρ w v => .agg (cForms.enc (vs x7 ((w64 (a3 + 1)).tmod 3) x14)).toArray = v, fun c ρ w v => .agg (cProd.enc x19).toArray = v, fun c ρ w v => .agg (cForms.enc (vs x11 ((w64 (a3 + 2)).tmod 3) x17)).toArray = v, fun c ρ w v => .agg (cProd.enc x21).toArray = v, fun c ρ w v => ∃ ad23, .pointer (some (ad23.add (a1.toNat * 27))) = v ∧ (c ≤ 0 → Ce ρ w 4 u3 x1.length ad23 (a1.toNat * 27) (cProd.enc (gl zProd x1 a1))), fun _ _ _ _ => True] ?_ hw ⟨o1, o2, o3, o9, o10, (fun _ => o4), (fun h => absurd h (Nat.not_lt_zero _))⟩ hf ?_ ?_
        · intro c ρ w ρ' w' hE hG
          obtain ⟨o1, o2, o3, o9, o10, o4x, o4y⟩ := hG
          exact ⟨o1.ext hE, o2.ext hE, o3.ext hE, o9.ext hE, o10.ext hE, (fun h => (o4x h).ext hE), (fun h => by obtain o4 := o4y h; exact o4.ext hE)⟩
        · exact LastsS.cons (fun _ _ _ _ _ _ _ h => h) <| LastsS.cons (fun _ _ _ _ _ _ _ h => h) <| LastsS.cons (fun _ _ _ _ _ _ _ h => h) <| LastsS.cons (fun _ _ _ _ _ _ _ h => h) <| LastsS.cons (fun _ _ _ _ _ _ _ h => h) <| LastsS.cons (fun _ _ _ _ _ _ _ h => h) <| LastsS.cons (fun _ _ _ _ _ _ _ h => h) <| LastsS.cons (fun _ _ _ _ _ _ _ h => h) <| LastsS.cons (fun c _ _ _ _ _ hE h => by obtain ⟨ad23, h, hl23⟩ := h; exact ⟨_, h, (fun h => (hl23 h).ext hE)⟩) <| LastsS.cons (fun _ _ _ _ _ _ _ h => h) <| LastsS.nil
        · refine StepsS.float rfl ?_ <| StepsS.float rfl ?_ <| StepsS.float rfl ?_ <| StepsS.float rfl ?_ <| StepsS.float rfl ?_ <| StepsS.float rfl ?_ <| StepsS.float rfl ?_ <| StepsS.float rfl ?_ <| StepsS.float rfl ?_ <| StepsS.main 0 rfl rfl ?_ <| StepsS.nil
          · intro c ρ w a hs hw hG hf hd K hK
            obtain ⟨o1, o2, o3, o9, o10, o4x, o4y⟩ := hG
            have o4 := o4x (hs 0 (by decide) (by kernel_rfl))
            exact d_val (R := fun ρ w v => u3 = v) hw (wn rfl) (r_move hf rfl) rfl rfl hK
          · intro c ρ w a hs hw hG hf hd K hK
            obtain ⟨o1, o2, o3, o9, o10, o4x, o4y⟩ := hG
            have o4 := o4x (hs 0 (by decide) (by kernel_rfl))
            exact d_val (R := fun ρ w v => .int .i64 a1 = v) hw (wn rfl) (r_move hf rfl) rfl rfl hK
          · intro c ρ w a hs hw hG hf hd K hK
            obtain ⟨o1, o2, o3, o9, o10, o4x, o4y⟩ := hG
            exact d_val (R := fun ρ w v => u3 = v) hw (wn rfl) (r_move hf rfl) rfl rfl hK
          · intro c ρ w a hs hw hG hf hd K hK
            obtain ⟨o1, o2, o3, o9, o10, o4x, o4y⟩ := hG
            exact d_val (R := fun ρ w v => .int .i64 a2 = v) hw (wn rfl) (r_move hf rfl) rfl rfl hK
          · intro c ρ w a hs hw hG hf hd K hK
            obtain ⟨o1, o2, o3, o9, o10, o4x, o4y⟩ := hG
            have o4 := o4x (hs 0 (by decide) (by kernel_rfl))
            exact d_val (R := fun ρ w v => .agg (cForms.enc (vs x7 ((w64 (a3 + 1)).tmod 3) x14)).toArray = v) hw (wn rfl) (r_load_agg ty91 hf rfl o9.cl (cForms.len _)) rfl rfl hK
          · intro c ρ w a hs hw hG hf hd K hK
            obtain ⟨o1, o2, o3, o9, o10, o4x, o4y⟩ := hG
            have o4 := o4x (hs 0 (by decide) (by kernel_rfl))
            obtain ⟨_, ht4, rfl⟩ := hd 4 (by kernel_rfl) (by kernel_rfl)
            replace hf := hf.more ht4
            refine d_call (R := fun ρ w v => .agg (cProd.enc x19).toArray = v) hw (wn rfl) (r_fn en88 hf rfl) (impl_productOf_ok  hx20) rfl (fun v w' hΦ => ?_) hK
            obtain ⟨hb, hΦ⟩ := hΦ
            obtain rfl := hΦ
            have hE := Ext.new (ρ := ρ) 13 hb
            exact ⟨_, hw.new 13 hb, hE, rfl⟩
          · intro c ρ w a hs hw hG hf hd K hK
            obtain ⟨o1, o2, o3, o9, o10, o4x, o4y⟩ := hG
            exact d_val (R := fun ρ w v => .agg (cForms.enc (vs x11 ((w64 (a3 + 2)).tmod 3) x17)).toArray = v) hw (wn rfl) (r_load_agg ty91 hf rfl o10.cl (cForms.len _)) rfl rfl hK
          · intro c ρ w a hs hw hG hf hd K hK
            obtain ⟨o1, o2, o3, o9, o10, o4x, o4y⟩ := hG
            have o4 := o4x (hs 0 (by decide) (by kernel_rfl))
            obtain ⟨_, ht6, rfl⟩ := hd 6 (by kernel_rfl) (by kernel_rfl)
            replace hf := hf.more ht6
            refine d_call (R := fun ρ w v => .agg (cProd.enc x21).toArray = v) hw (wn rfl) (r_fn en88 hf rfl) (impl_productOf_ok  hx22) rfl (fun v w' hΦ => ?_) hK
            obtain ⟨hb, hΦ⟩ := hΦ
            obtain rfl := hΦ
            have hE := Ext.new (ρ := ρ) 14 hb
            exact ⟨_, hw.new 14 hb, hE, rfl⟩
          · intro c ρ w a hs hw hG hf hd K hK
            obtain ⟨o1, o2, o3, o9, o10, o4x, o4y⟩ := hG
            have o4 := o4x (hs 0 (by decide) (by kernel_rfl))
            obtain ⟨_, ht0, rfl⟩ := hd 0 (by kernel_rfl) (by kernel_rfl)
            replace hf := hf.more ht0
            obtain ⟨_, ht1, rfl⟩ := hd 1 (by kernel_rfl) (by kernel_rfl)
            replace hf := hf.more ht1
            obtain ⟨ad23, hl23⟩ := Ow.ce (d := cProd) o4 zProd hc5.1 hc5.2
            exact d_val (R := fun ρ w v => ∃ ad23, .pointer (some (ad23.add (a1.toNat * 27))) = v ∧ (c ≤ 0 → Ce ρ w 4 u3 x1.length ad23 (a1.toNat * 27) (cProd.enc (gl zProd x1 a1)))) hw (wn rfl) (r_idx Try.underlying26 sz78 hf rfl hl23.at_ rfl hc5.1 hc5.2) rfl ⟨_, rfl, fun _ => hl23⟩ hK
          · intro ρ w a S hw hG hf hS hdep hSi K hK
            obtain ⟨o1, o2, o3, o9, o10, o4x, o4y⟩ := hG
            have hfL := hf
            have o4 := o4x (by decide)
            obtain ⟨_, ht5, rfl⟩ := hS 5 (by decide) (hdep 5 (by kernel_rfl)) (by kernel_rfl)
            replace hf := hf.more ht5
            obtain ⟨_, ht8, ⟨ad23, rfl, hl23⟩⟩ := hS 8 (by decide) (hdep 8 (by kernel_rfl)) (by kernel_rfl)
            replace hl23 := hl23 (by decide)
            replace hf := hf.more ht8
            refine m_skip (Γ := fun c ρ w => Va ρ w 1 g1 28 ([.int .i64 a0.p, .int .i64 a0.n, .int .i64 a0.m, .int .i64 a0.k, va0]) ∧ Va ρ w 2 g2 28 ([.int .i64 0, .int .i64 0, .int .i64 0, .int .i64 0, (.slice none 0 0)]) ∧ Ow (kf cProd) 78 ρ w w0.heap.size 3 (.slice none 0 0) ([] : List Prod) ∧ Va ρ w 9 g9 91 (cForms.enc (vs x7 ((w64 (a3 + 1)).tmod 3) x14)) ∧ Va ρ w 10 g10 91 (cForms.enc (vs x11 ((w64 (a3 + 2)).tmod 3) x17)) ∧ (c ≤ 0 → Ow (kf cProd) 78 ρ w w0.heap.size 4 u3 x1) ∧ (0 < c → Ow (kf cProd) 78 ρ w w0.heap.size 4 u3 (x1.set a1.toNat x19))) (Rl := [fun c ρ w v => u3 = v, fun c ρ w v => .int .i64 a1 = v, fun c ρ w v => u3 = v, fun c ρ w v => .int .i64 a2 = v, fun c ρ w v => .agg (cForms.enc (vs x7 ((w64 (a3 + 1)).tmod 3) x14)).toArray = v, fun c ρ w v => .agg (cProd.enc x19).toArray = v, fun c ρ w v => .agg (cForms.enc (vs x11 ((w64 (a3 + 2)).tmod 3) x17)).toArray = v, fun c ρ w v => .agg (cProd.enc x21).toArray = v, fun c ρ w v => ∃ ad23, .pointer (some (ad23.add (a1.toNat * 27))) = v ∧ (c ≤ 0 → Ce ρ w 4 u3 x1.length ad23 (a1.toNat * 27) (cProd.enc (gl zProd x1 a1))), fun _ _ _ _ => True]) hfL hS (by kernel_rfl) rfl (wn rfl) (r_store_ec (b := x19) zProd hw (by decide) o4 hc5.1 hc5.2 (Lens.id _) hl23.at_ ty78 (by first | rfl | exact Nat.add_assoc _ _ _ | (simp only [Nat.add_assoc]; rfl)) hf rfl rfl rfl) (fun w' hΦ => ?_) hK
            obtain ⟨hw, hA, o4⟩ := hΦ
            replace o1 := o1.adv hA (by decide)
            replace o2 := o2.adv hA (by decide)
            replace o3 := o3.adv hA (by decide)
            replace o9 := o9.adv hA (by decide)
            replace o10 := o10.adv hA (by decide)
            refine ⟨_, hw, ⟨o1, o2, o3, o9, o10, (fun h => absurd h (by decide)), (fun _ => o4)⟩, ?_⟩
            · exact PassL.cons (fun h => h) <| PassL.cons (fun h => h) <| PassL.cons (fun h => h) <| PassL.cons (fun h => h) <| PassL.cons (fun h => h) <| PassL.cons (fun h => h) <| PassL.cons (fun h => h) <| PassL.cons (fun h => h) <| PassL.cons (fun h => by obtain ⟨_, ht, ad23, h, hl23⟩ := h; exact ⟨_, ht, _, h, (fun h => absurd h (by decide))⟩) <| PassL.here <| PassL.nil
        · intro ρ w a hw hG hf hd
          obtain ⟨o1, o2, o3, o9, o10, o4x, o4y⟩ := hG
          replace hf : Fr 76 a [(1, .int .i64 a1), (2, .int .i64 a2), (5, .pointer (some ((⟨g1, 0, none⟩ : Addr).add 0))), (10, .pointer (some ((⟨g2, 0, none⟩ : Addr).add 0))), (11, u3), (12, .pointer (some ((⟨g9, 0, none⟩ : Addr).add 0))), (13, .pointer (some ((⟨g10, 0, none⟩ : Addr).add 0)))] := hf
          obtain o4 := o4y (by decide)
          obtain ⟨_, ht, rfl⟩ := hd 2 (by decide) (by kernel_rfl)
          replace hf := hf.more ht
          obtain ⟨_, ht, rfl⟩ := hd 3 (by decide) (by kernel_rfl)
          replace hf := hf.more ht
          obtain ⟨_, ht, rfl⟩ := hd 7 (by decide) (by kernel_rfl)
          replace hf := hf.more ht
          obtain ⟨hc24, hF⟩ := of_guard hF
          obtain ⟨ad25, hl25⟩ := Ow.ce (d := cProd) o4 zProd hc24.1 hc24.2
          refine st hf rfl rfl (by decide) (r_idx Try.underlying26 sz78 hf rfl hl25.at_ rfl hc24.1 hc24.2) fun a hf => ?_
          refine st_skip hf rfl rfl (r_store_ec (b := x21) zProd hw (by decide) o4 hc24.1 hc24.2 (Lens.id _) hl25.at_ ty78 (by first | rfl | exact Nat.add_assoc _ _ _ | (simp only [Nat.add_assoc]; rfl)) hf rfl rfl rfl) fun a w hf hΦ => ?_
          obtain ⟨hw, hA, o4⟩ := hΦ
          replace o1 := o1.adv hA (by decide)
          replace o2 := o2.adv hA (by decide)
          replace o3 := o3.adv hA (by decide)
          replace o9 := o9.adv hA (by decide)
          replace o10 := o10.adv hA (by decide)
          refine c_nt ?_
          refine c_seq ?_
          obtain ⟨x26, hx27, hF⟩ := of_bind hF
          replace hf : Fr 76 a [(5, .pointer (some ((⟨g1, 0, none⟩ : Addr).add 0))), (10, .pointer (some ((⟨g2, 0, none⟩ : Addr).add 0))), (11, u3)] := hf.sub ⟨rfl, rfl, rfl, trivial⟩
          refine c_stage 3 [2] mixed (by kernel_rfl) (by kernel_rfl) (fun c ρ w => Va ρ w 1 g1 28 ([.int .i64 a0.p, .int .i64 a0.n, .int .i64 a0.m, .int .i64 a0.k, va0]) ∧ Va ρ w 2 g2 28 ([.int .i64 0, .int .i64 0, .int .i64 0, .int .i64 0, (.slice none 0 0)]) ∧ Ow (kf cProd) 78 ρ w w0.heap.size 3 (.slice none 0 0) ([] : List Prod) ∧ (c ≤ 0 → Ow (kf cProd) 78 ρ w w0.heap.size 4 u3 ((x1.set a1.toNat x19).set a2.toNat x21))) ?_ [fun c ρ w v => .agg ([.int .i64 a0.p, .int .i64 a0.n, .int .i64 a0.m, .int .i64 a0.k, va0]).toArray = v, fun c ρ w v => u3 = v, fun c ρ w v => ∃ u28, u28 = v ∧ Ow (kf cProd) 78 ρ w w0.heap.size 4 u28 x26] ?_ hw ⟨o1, o2, o3, (fun _ => o4)⟩ hf ?_ ?_
          · intro c ρ w ρ' w' hE hG
            obtain ⟨o1, o2, o3, o4x⟩ := hG
            exact ⟨o1.ext hE, o2.ext hE, o3.ext hE, (fun h => (o4x h).ext hE)⟩
          · exact LastsS.cons (fun _ _ _ _ _ _ _ h => h) <| LastsS.cons (fun _ _ _ _ _ _ _ h => h) <| LastsS.cons (fun c _ _ _ _ _ hE h => by obtain ⟨u28, h, o4⟩ := h; exact ⟨_, h, o4.ext hE⟩) <| LastsS.nil
          · refine StepsS.float rfl ?_ <| StepsS.float rfl ?_ <| StepsS.main 0 rfl rfl ?_ <| StepsS.nil
            · intro c ρ w a hs hw hG hf hd K hK
              obtain ⟨o1, o2, o3, o4x⟩ := hG
              exact d_val (R := fun ρ w v => .agg ([.int .i64 a0.p, .int .i64 a0.n, .int .i64 a0.m, .int .i64 a0.k, va0]).toArray = v) hw (wn rfl) (r_load_agg ty28 hf rfl o1.cl rfl) rfl rfl hK
            · intro c ρ w a hs hw hG hf hd K hK
              obtain ⟨o1, o2, o3, o4x⟩ := hG
              have o4 := o4x (hs 0 (by decide) (by kernel_rfl))
              exact d_val (R := fun ρ w v => u3 = v) hw (wn rfl) (r_move hf rfl) rfl rfl hK
            · intro ρ w a S hw hG hf hS hdep hSi K hK
              obtain ⟨o1, o2, o3, o4x⟩ := hG
              have hfL := hf
              have o4 := o4x (by decide)
              obtain ⟨_, ht1, rfl⟩ := hS 1 (by decide) (hdep 1 (by kernel_rfl)) (by kernel_rfl)
              replace hf := hf.more ht1
              refine m_call (ms := [2]) (Γ := fun c ρ w => Va ρ w 1 g1 28 ([.int .i64 a0.p, .int .i64 a0.n, .int .i64 a0.m, .int .i64 a0.k, va0]) ∧ Va ρ w 2 g2 28 ([.int .i64 0, .int .i64 0, .int .i64 0, .int .i64 0, (.slice none 0 0)]) ∧ Ow (kf cProd) 78 ρ w w0.heap.size 3 (.slice none 0 0) ([] : List Prod) ∧ (c ≤ 0 → Ow (kf cProd) 78 ρ w w0.heap.size 4 u3 ((x1.set a1.toNat x19).set a2.toNat x21))) (Rl := [fun c ρ w v => .agg ([.int .i64 a0.p, .int .i64 a0.n, .int .i64 a0.m, .int .i64 a0.k, va0]).toArray = v, fun c ρ w v => u3 = v, fun c ρ w v => ∃ u28, u28 = v ∧ Ow (kf cProd) 78 ρ w w0.heap.size 4 u28 x26]) hfL hS (by decide) rfl (by kernel_rfl) (by kernel_rfl) (wn rfl) rfl (r_fn en79 hf rfl) (impl_kept_ok (by decide) hw o4 hx27) (fun v w' hΦ => ?_) hK
              obtain ⟨ρ, hw, hA, hΦ⟩ := hΦ
              obtain ⟨u28, rfl, o4⟩ := hΦ
              replace o1 := o1.adv hA (by decide)
              replace o2 := o2.adv hA (by decide)
              replace o3 := o3.adv hA (by decide)
              refine ⟨_, hw, ⟨o1, o2, o3, (fun h => absurd h (by decide))⟩, ?_, ?_⟩
              · exact PassL.cons (fun h => h) <| PassL.cons (fun h => h) <| PassL.here <| PassL.nil
              · exact ⟨_, rfl, o4⟩
          · intro ρ w a hw hG hf hd
            obtain ⟨o1, o2, o3, o4x⟩ := hG
            replace hf : Fr 76 a [(5, .pointer (some ((⟨g1, 0, none⟩ : Addr).add 0))), (10, .pointer (some ((⟨g2, 0, none⟩ : Addr).add 0))), (11, u3)] := hf
            obtain ⟨_, ht, rfl⟩ := hd 0 (by decide) (by kernel_rfl)
            replace hf := hf.more ht
            obtain ⟨_, ht, ⟨u28, rfl, o4⟩⟩ := hd 2 (by decide) (by kernel_rfl)
            replace hf := hf.more ht
            obtain ⟨x29, hx30, hF⟩ := of_bind hF
            refine st_mfn hf rfl rfl (by decide) (r_fn en78 hf rfl) (impl_with_ok (a0 := a0) (by decide) hw h0 o4 hx30) fun a v w ρ hf hw hA hΦ => ?_
            obtain ⟨u31, rfl, o4⟩ := hΦ
            replace o1 := o1.adv hA (by decide)
            replace o2 := o2.adv hA (by decide)
            replace o3 := o3.adv hA (by decide)
            refine st_skip hf rfl rfl (r_store_w (cs' := [.int .i64 x29.p, .int .i64 x29.n, .int .i64 x29.m, .int .i64 x29.k, u31]) hw o2 (by decide) ty28 rfl rfl (one_sch o4.ro.one) hf rfl rfl rfl) fun a w hf hΦ => ?_
            obtain ⟨hw, hA, o2⟩ := hΦ
            replace o1 := o1.adv hA (by decide)
            replace o3 := o3.adv hA (by decide)
            replace o4 := o4.adv hA (by decide)
            refine c_nt ?_
            refine c_retc ?_
            obtain rfl := Option.some.inj hF
            refine c_ret hf (res_cell Try.results90 ty28 hf rfl o2.cl rfl) ?_
            exact ⟨_, rfl, hw.below, ⟨_, rfl, o4.out⟩⟩
/-! f28 -/
noncomputable def impl_FlipProducts (a0 : Sch) (a1 : Int) (a2 : Int) (a3 : Int) (a4 : Int) : Option (Sch × Int) :=
  (impl_IsScheme a0).bind fun x1 => if (!x1) = true then (some (((⟨0, 0, 0, 0, ([] : List Prod)⟩ : Sch), 1))) else (((impl_isIndex a0 ([a1, a2])).bind fun x6 => if (!x6) = true then (some true) else (if (decide (a3 < 0)) = true then (some true) else (if (decide (2 < a3)) = true then (some true) else (if (decide (a4 < 1)) = true then (some true) else (some (decide (a0.p ≤ a4))))))).bind fun (s5 : Bool) => if s5 = true then (some (((⟨0, 0, 0, 0, ([] : List Prod)⟩ : Sch), 2))) else ((if (decide (a1 = a2)) = true then (some true) else (if 0 ≤ a1 ∧ a1 < (a0.ps.length : Int) then ((impl_factors (gl zProd a0.ps a1)).bind fun x18 => if 0 ≤ a3 ∧ a3 < 3 then (if 0 ≤ a2 ∧ a2 < (a0.ps.length : Int) then ((impl_factors (gl zProd a0.ps a2)).bind fun x23 => some (decide ((vg zForm x18 a3) ≠ (vg zForm x23 a3)))) else none) else none) else none)).bind fun (s14 : Bool) => if s14 = true then (some (((⟨0, 0, 0, 0, ([] : List Prod)⟩ : Sch), 5))) else ((impl_flip a0 a1 a2 a3 a4).bind fun x26 => some ((x26, 0)))))
theorem impl_FlipProducts_ok {w0 : World} {a0 : Sch} {a1 : Int} {a2 : Int} {a3 : Int} {a4 : Int} {va0 : Value} (h0 : Ro (kf cProd) w0 va0 a0.ps) {r : Sch × Int} (hF : impl_FlipProducts a0 a1 a2 a3 a4 = some r) :
    Calls Try.prog 28 [.agg ([.int .i64 a0.p, .int .i64 a0.n, .int .i64 a0.m, .int .i64 a0.k, va0]).toArray, .int .i64 a1, .int .i64 a2, .int .i64 a3, .int .i64 a4].toArray w0 fun e w => ∃ v, e = .returned v ∧ Below w0.heap.size w0 w ∧ ∃ u0, .tuple #[.agg [.int .i64 r.1.p, .int .i64 r.1.n, .int .i64 r.1.m, .int .i64 r.1.k, u0].toArray, .int .i64 r.2] = v ∧ Fresh (kf cProd) 78 w0 w u0 r.1.ps := by
  refine calls_of (k := 73) Try.func28 rfl rfl (Nat.le_of_ble_eq_true rfl) fun a hf => ?_
  replace hf : Fr 73 a [(0, .agg ([.int .i64 a0.p, .int .i64 a0.n, .int .i64 a0.m, .int .i64 a0.k, va0]).toArray), (1, .int .i64 a1), (2, .int .i64 a2), (3, .int .i64 a3), (4, .int .i64 a4)] := hf
  refine c_start fun w ρ hw => ?_
  unfold impl_FlipProducts at hF
  refine c_seq ?_
  refine c_region ?_
  refine st_ex hf rfl rfl (by decide) (r_box (cs := [.int .i64 a0.p, .int .i64 a0.n, .int .i64 a0.m, .int .i64 a0.k, va0]) 1 hw hf rfl rfl) fun a v w hf hΦ => ?_
  obtain ⟨g1, ρ, rfl, hw, hE, o1⟩ := hΦ
  have o3 : Ow (kf cProd) 78 ρ w w0.heap.size 3 (.slice none 0 0) [] := Ow.nil _ _ _ _ _ _
  refine st_ex hf rfl rfl (by decide) (r_alloc (cs := [.int .i64 0, .int .i64 0, .int .i64 0, .int .i64 0, (.slice none 0 0)]) 2 ze28 rfl hw) fun a v w hf hΦ => ?_
  obtain ⟨g2, ρ, rfl, hw, hE, o2⟩ := hΦ
  replace o1 := o1.ext hE
  replace o3 := o3.ext hE
  refine st hf rfl rfl (by decide) (r_assign hf rfl) fun a hf => ?_
  refine c_nt ?_
  refine c_seq ?_
  refine c_block ?_
  refine c_seq ?_
  refine c_region ?_
  refine st hf rfl rfl (by decide) (r_load_agg ty28 hf rfl o1.cl rfl) fun a hf => ?_
  obtain ⟨x1, hx2, hF⟩ := of_bind hF
  refine st_fn 4 hw hf rfl rfl (by decide) (r_fn en74 hf rfl) (impl_IsScheme_ok (a0 := a0) (h0.now hw) hx2) fun a v w ρ hf hw hE hN hΦ => ?_
  obtain rfl := hΦ
  replace o1 := o1.ext hE
  replace o3 := o3.ext hE
  replace o2 := o2.ext hE
  refine st hf rfl rfl (by decide) (r_not hf rfl) fun a hf => ?_
  refine st hf rfl rfl (by decide) (r_assign hf rfl) fun a hf => ?_
  refine c_nt ?_
  rcases of_ite hF with ⟨hb3, hF⟩ | ⟨hb3, hF⟩
  · refine c_ift hf rfl hb3 ?_
    refine c_seq ?_
    refine c_region ?_
    have o5 : Ow (kf cProd) 78 ρ w w0.heap.size 5 (.slice none 0 0) [] := Ow.nil _ _ _ _ _ _
    refine st hf rfl rfl (by decide) (r_build_struct (pl := [(0, 1), (1, 1), (2, 1), (3, 1), (4, 1)]) (vs := []) (res := ([.int .i64 0, .int .i64 0, .int .i64 0, .int .i64 0, (.slice none 0 0)]).toArray) Try.underlying28 (by kernel_rfl) ze28 hf rfl rfl rfl) fun a hf => ?_
    refine st_skip hf rfl rfl (r_store_w (cs' := [.int .i64 0, .int .i64 0, .int .i64 0, .int .i64 0, (.slice none 0 0)]) hw o2 (by decide) ty28 rfl rfl (one_sch o5.ro.one) hf rfl rfl rfl) fun a w hf hΦ => ?_
    obtain ⟨hw, hA, o2⟩ := hΦ
    replace o1 := o1.adv hA (by decide)
    replace o3 := o3.adv hA (by decide)
    replace o5 := o5.adv hA (by decide)
    refine st hf rfl rfl (by decide) (r_assign hf rfl) fun a hf => ?_
    refine c_nt ?_
    refine c_retc ?_
    obtain rfl := Option.some.inj hF
    refine r_block ?_
    refine r_then ?_
    refine c_ret hf (res_ct Try.results28 ty28 hf rfl o2.cl rfl rfl) ?_
    exact ⟨_, rfl, hw.below, ⟨_, rfl, o5.out⟩⟩
  · refine c_iff hf rfl hb3 ?_
    refine c_seq ?_
    obtain ⟨s5, hT4, hG4⟩ := of_bind hF
    clear hF
    refine c_meet (fun (s : Bool) a w => ∃ ρ, Wd w0 ρ w ∧ Fr 73 a [(1, .int .i64 a1), (2, .int .i64 a2), (3, .int .i64 a3), (4, .int .i64 a4), (5, .pointer (some ((⟨g1, 0, none⟩ : Addr).add 0))), (10, .pointer (some ((⟨g2, 0, none⟩ : Addr).add 0))), (17, .bool s)] ∧ Va ρ w 1 g1 28 ([.int .i64 a0.p, .int .i64 a0.n, .int .i64 a0.m, .int .i64 a0.k, va0]) ∧ Va ρ w 2 g2 28 ([.int .i64 0, .int .i64 0, .int .i64 0, .int .i64 0, (.slice none 0 0)]) ∧ Ow (kf cProd) 78 ρ w w0.heap.size 3 (.slice none 0 0) ([] : List Prod)) s5 ?_ ?_
    · have hF := hT4
      refine c_region ?_
      refine st hf rfl rfl (by decide) (r_load_agg ty28 hf rfl o1.cl rfl) fun a hf => ?_
      refine st hf rfl rfl (by decide) (r_move hf rfl) fun a hf => ?_
      refine st hf rfl rfl (by decide) (r_move hf rfl) fun a hf => ?_
      refine st_ex hf rfl rfl (by decide) (r_lit (d := fI64) (xs := ([a1, a2] : List Int)) (vs := [.int .i64 a1, .int .i64 a2]) 6 Try.underlying61 el2 (Nat.le_of_ble_eq_true rfl) (Nat.le_of_ble_eq_true rfl) hw hf rfl rfl rfl) fun a v6 w hf hΦ => ?_
      obtain ⟨ρ, hw, hE, o6⟩ := hΦ
      replace o1 := o1.ext hE
      replace o3 := o3.ext hE
      replace o2 := o2.ext hE
      obtain ⟨x6, hx7, hF⟩ := of_bind hF
      refine st_fn 7 hw hf rfl rfl (by decide) (r_fn en75 hf rfl) (impl_isIndex_ok (a0 := a0) (h0.now hw) o6.ro hx7) fun a v w ρ hf hw hE hN hΦ => ?_
      obtain rfl := hΦ
      replace o1 := o1.ext hE
      replace o3 := o3.ext hE
      replace o2 := o2.ext hE
      replace o6 := o6.ext hE
      refine st hf rfl rfl (by decide) (r_not hf rfl) fun a hf => ?_
      refine st hf rfl rfl (by decide) (r_move hf rfl) fun a hf => ?_
      rcases of_ite hF with ⟨hb8, hF⟩ | ⟨hb8, hF⟩
      · refine st_no (b := true) hf rfl rfl rfl hb8 rfl (by decide) fun a hf => ?_
        refine st_no (b := true) hf rfl rfl rfl hb8 rfl (by decide) fun a hf => ?_
        refine st hf rfl rfl (by decide) (r_pick (b := true) hf rfl hb8 rfl) fun a hf => ?_
        refine st hf rfl rfl (by decide) (r_move hf rfl) fun a hf => ?_
        refine st_no (b := true) hf rfl rfl rfl rfl rfl (by decide) fun a hf => ?_
        refine st_no (b := true) hf rfl rfl rfl rfl rfl (by decide) fun a hf => ?_
        refine st hf rfl rfl (by decide) (r_pick (b := true) hf rfl rfl rfl) fun a hf => ?_
        refine st hf rfl rfl (by decide) (r_move hf rfl) fun a hf => ?_
        refine st_no (b := true) hf rfl rfl rfl rfl rfl (by decide) fun a hf => ?_
        refine st_no (b := true) hf rfl rfl rfl rfl rfl (by decide) fun a hf => ?_
        refine st hf rfl rfl (by decide) (r_pick (b := true) hf rfl rfl rfl) fun a hf => ?_
        refine st hf rfl rfl (by decide) (r_move hf rfl) fun a hf => ?_
        refine st_no (b := true) hf rfl rfl rfl rfl rfl (by decide) fun a hf => ?_
        refine st_no (b := true) hf rfl rfl rfl rfl rfl (by decide) fun a hf => ?_
        refine st_no (b := true) hf rfl rfl rfl rfl rfl (by decide) fun a hf => ?_
        refine st_no (b := true) hf rfl rfl rfl rfl rfl (by decide) fun a hf => ?_
        refine st hf rfl rfl (by decide) (r_pick (b := true) hf rfl rfl rfl) fun a hf => ?_
        refine st hf rfl rfl (by decide) (r_assign hf rfl) fun a hf => ?_
        refine c_nil ⟨rfl, ?_⟩
        obtain rfl := Option.some.inj hF
        exact ⟨_, hw, hf.sub ⟨rfl, rfl, rfl, rfl, rfl, rfl, rfl, trivial⟩, o1, o2, o3⟩
      · refine st_g (b := false) hf rfl rfl rfl hb8 rfl (by decide) (r_move hf rfl) fun a hf => ?_
        refine st_g (b := false) hf rfl rfl rfl hb8 rfl (by decide) (r_lss hf rfl rfl) fun a hf => ?_
        refine st hf rfl rfl (by decide) (r_pick (b := false) hf rfl hb8 rfl) fun a hf => ?_
        refine st hf rfl rfl (by decide) (r_move hf rfl) fun a hf => ?_
        rcases of_ite hF with ⟨hb9, hF⟩ | ⟨hb9, hF⟩
        · refine st_no (b := true) hf rfl rfl rfl hb9 rfl (by decide) fun a hf => ?_
          refine st_no (b := true) hf rfl rfl rfl hb9 rfl (by decide) fun a hf => ?_
          refine st hf rfl rfl (by decide) (r_pick (b := true) hf rfl hb9 rfl) fun a hf => ?_
          refine st hf rfl rfl (by decide) (r_move hf rfl) fun a hf => ?_
          refine st_no (b := true) hf rfl rfl rfl rfl rfl (by decide) fun a hf => ?_
          refine st_no (b := true) hf rfl rfl rfl rfl rfl (by decide) fun a hf => ?_
          refine st hf rfl rfl (by decide) (r_pick (b := true) hf rfl rfl rfl) fun a hf => ?_
          refine st hf rfl rfl (by decide) (r_move hf rfl) fun a hf => ?_
          refine st_no (b := true) hf rfl rfl rfl rfl rfl (by decide) fun a hf => ?_
          refine st_no (b := true) hf rfl rfl rfl rfl rfl (by decide) fun a hf => ?_
          refine st_no (b := true) hf rfl rfl rfl rfl rfl (by decide) fun a hf => ?_
          refine st_no (b := true) hf rfl rfl rfl rfl rfl (by decide) fun a hf => ?_
          refine st hf rfl rfl (by decide) (r_pick (b := true) hf rfl rfl rfl) fun a hf => ?_
          refine st hf rfl rfl (by decide) (r_assign hf rfl) fun a hf => ?_
          refine c_nil ⟨rfl, ?_⟩
          obtain rfl := Option.some.inj hF
          exact ⟨_, hw, hf.sub ⟨rfl, rfl, rfl, rfl, rfl, rfl, rfl, trivial⟩, o1, o2, o3⟩
        · refine st_g (b := false) hf rfl rfl rfl hb9 rfl (by decide) (r_move hf rfl) fun a hf => ?_
          refine st_g (b := false) hf rfl rfl rfl hb9 rfl (by decide) (r_gtr hf rfl rfl) fun a hf => ?_
          refine st hf rfl rfl (by decide) (r_pick (b := false) hf rfl hb9 rfl) fun a hf => ?_
          refine st hf rfl rfl (by decide) (r_move hf rfl) fun a hf => ?_
          rcases of_ite hF with ⟨hb10, hF⟩ | ⟨hb10, hF⟩
          · refine st_no (b := true) hf rfl rfl rfl hb10 rfl (by decide) fun a hf => ?_
            refine st_no (b := true) hf rfl rfl rfl hb10 rfl (by decide) fun a hf => ?_
            refine st hf rfl rfl (by decide) (r_pick (b := true) hf rfl hb10 rfl) fun a hf => ?_
            refine st hf rfl rfl (by decide) (r_move hf rfl) fun a hf => ?_
            refine st_no (b := true) hf rfl rfl rfl rfl rfl (by decide) fun a hf => ?_
            refine st_no (b := true) hf rfl rfl rfl rfl rfl (by decide) fun a hf => ?_
            refine st_no (b := true) hf rfl rfl rfl rfl rfl (by decide) fun a hf => ?_
            refine st_no (b := true) hf rfl rfl rfl rfl rfl (by decide) fun a hf => ?_
            refine st hf rfl rfl (by decide) (r_pick (b := true) hf rfl rfl rfl) fun a hf => ?_
            refine st hf rfl rfl (by decide) (r_assign hf rfl) fun a hf => ?_
            refine c_nil ⟨rfl, ?_⟩
            obtain rfl := Option.some.inj hF
            exact ⟨_, hw, hf.sub ⟨rfl, rfl, rfl, rfl, rfl, rfl, rfl, trivial⟩, o1, o2, o3⟩
          · refine st_g (b := false) hf rfl rfl rfl hb10 rfl (by decide) (r_move hf rfl) fun a hf => ?_
            refine st_g (b := false) hf rfl rfl rfl hb10 rfl (by decide) (r_lss hf rfl rfl) fun a hf => ?_
            refine st hf rfl rfl (by decide) (r_pick (b := false) hf rfl hb10 rfl) fun a hf => ?_
            refine st hf rfl rfl (by decide) (r_move hf rfl) fun a hf => ?_
            rcases of_ite hF with ⟨hb11, hF⟩ | ⟨hb11, hF⟩
            · refine st_no (b := true) hf rfl rfl rfl hb11 rfl (by decide) fun a hf => ?_
              refine st_no (b := true) hf rfl rfl rfl hb11 rfl (by decide) fun a hf => ?_
              refine st_no (b := true) hf rfl rfl rfl hb11 rfl (by decide) fun a hf => ?_
              refine st_no (b := true) hf rfl rfl rfl hb11 rfl (by decide) fun a hf => ?_
              refine st hf rfl rfl (by decide) (r_pick (b := true) hf rfl hb11 rfl) fun a hf => ?_
              refine st hf rfl rfl (by decide) (r_assign hf rfl) fun a hf => ?_
              refine c_nil ⟨rfl, ?_⟩
              obtain rfl := Option.some.inj hF
              exact ⟨_, hw, hf.sub ⟨rfl, rfl, rfl, rfl, rfl, rfl, rfl, trivial⟩, o1, o2, o3⟩
            · refine st_g (b := false) hf rfl rfl rfl hb11 rfl (by decide) (r_move hf rfl) fun a hf => ?_
              refine st_g (b := false) hf rfl rfl rfl hb11 rfl (by decide) (r_fa fa28_0 hf rfl) fun a hf => ?_
              refine st_g (b := false) hf rfl rfl rfl hb11 rfl (by decide) (r_load_cell ty2 hf rfl (o1.cl.at_ 0 _ rfl)) fun a hf => ?_
              refine st_g (b := false) hf rfl rfl rfl hb11 rfl (by decide) (r_geq hf rfl rfl) fun a hf => ?_
              refine st hf rfl rfl (by decide) (r_pick (b := false) hf rfl hb11 rfl) fun a hf => ?_
              refine st hf rfl rfl (by decide) (r_assign hf rfl) fun a hf => ?_
              refine c_nil ⟨rfl, ?_⟩
              obtain rfl := Option.some.inj hF
              exact ⟨_, hw, hf.sub ⟨rfl, rfl, rfl, rfl, rfl, rfl, rfl, trivial⟩, o1, o2, o3⟩
    · rintro a w ⟨ρ, hw, hf, o1, o2, o3⟩
      replace hf : Fr 73 a [(1, .int .i64 a1), (2, .int .i64 a2), (3, .int .i64 a3), (4, .int .i64 a4), (5, .pointer (some ((⟨g1, 0, none⟩ : Addr).add 0))), (10, .pointer (some ((⟨g2, 0, none⟩ : Addr).add 0))), (17, .bool s5)] := hf
      replace o1 : Va ρ w 1 g1 28 ([.int .i64 a0.p, .int .i64 a0.n, .int .i64 a0.m, .int .i64 a0.k, va0]) := o1
      replace o2 : Va ρ w 2 g2 28 ([.int .i64 0, .int .i64 0, .int .i64 0, .int .i64 0, (.slice none 0 0)]) := o2
      replace o3 : Ow (kf cProd) 78 ρ w w0.heap.size 3 (.slice none 0 0) ([] : List Prod) := o3
      have hF := hG4
      refine n_then ?_
      rcases of_ite hF with ⟨hb12, hF⟩ | ⟨hb12, hF⟩
      · refine c_ift hf rfl hb12 ?_
        refine c_seq ?_
        refine c_region ?_
        have o8 : Ow (kf cProd) 78 ρ w w0.heap.size 8 (.slice none 0 0) [] := Ow.nil _ _ _ _ _ _
        refine st hf rfl rfl (by decide) (r_build_struct (pl := [(0, 1), (1, 1), (2, 1), (3, 1), (4, 1)]) (vs := []) (res := ([.int .i64 0, .int .i64 0, .int .i64 0, .int .i64 0, (.slice none 0 0)]).toArray) Try.underlying28 (by kernel_rfl) ze28 hf rfl rfl rfl) fun a hf => ?_
        refine st_skip hf rfl rfl (r_store_w (cs' := [.int .i64 0, .int .i64 0, .int .i64 0, .int .i64 0, (.slice none 0 0)]) hw o2 (by decide) ty28 rfl rfl (one_sch o8.ro.one) hf rfl rfl rfl) fun a w hf hΦ => ?_
        obtain ⟨hw, hA, o2⟩ := hΦ
        replace o1 := o1.adv hA (by decide)
        replace o3 := o3.adv hA (by decide)
        replace o8 := o8.adv hA (by decide)
        refine st hf rfl rfl (by decide) (r_assign hf rfl) fun a hf => ?_
        refine c_nt ?_
        refine c_retc ?_
        obtain rfl := Option.some.inj hF
        refine r_block ?_
        refine r_then ?_
        refine c_ret hf (res_ct Try.results28 ty28 hf rfl o2.cl rfl rfl) ?_
        exact ⟨_, rfl, hw.below, ⟨_, rfl, o8.out⟩⟩
      · refine c_iff hf rfl hb12 ?_
        refine c_seq ?_
        obtain ⟨s14, hT13, hG13⟩ := of_bind hF
        clear hF
        refine c_meet (fun (s : Bool) a w => ∃ ρ, Wd w0 ρ w ∧ Fr 73 a [(1, .int .i64 a1), (2, .int .i64 a2), (3, .int .i64 a3), (4, .int .i64 a4), (5, .pointer (some ((⟨g1, 0, none⟩ : Addr).add 0))), (10, .pointer (some ((⟨g2, 0, none⟩ : Addr).add 0))), (43, .bool s)] ∧ Va ρ w 1 g1 28 ([.int .i64 a0.p, .int .i64 a0.n, .int .i64 a0.m, .int .i64 a0.k, va0]) ∧ Va ρ w 2 g2 28 ([.int .i64 0, .int .i64 0, .int .i64 0, .int .i64 0, (.slice none 0 0)]) ∧ Ow (kf cProd) 78 ρ w w0.heap.size 3 (.slice none 0 0) ([] : List Prod)) s14 ?_ ?_
        · have hF := hT13
          rcases of_ite hF with ⟨hb15, hF⟩ | ⟨hb15, hF⟩
          · replace hf : Fr 73 a [(1, .int .i64 a1), (2, .int .i64 a2), (3, .int .i64 a3), (4, .int .i64 a4), (5, .pointer (some ((⟨g1, 0, none⟩ : Addr).add 0))), (10, .pointer (some ((⟨g2, 0, none⟩ : Addr).add 0)))] := hf.sub ⟨rfl, rfl, rfl, rfl, rfl, rfl, trivial⟩
            refine c_drawL (h := 20) mixed (by kernel_rfl) (by kernel_rfl) (fun ρ w => Va ρ w 1 g1 28 ([.int .i64 a0.p, .int .i64 a0.n, .int .i64 a0.m, .int .i64 a0.k, va0]) ∧ Va ρ w 2 g2 28 ([.int .i64 0, .int .i64 0, .int .i64 0, .int .i64 0, (.slice none 0 0)]) ∧ Ow (kf cProd) 78 ρ w w0.heap.size 3 (.slice none 0 0) ([] : List Prod)) ?_ [fun ρ w v => .int .i64 a1 = v, fun ρ w v => .int .i64 a2 = v, fun ρ w v => .bool (decide (a1 = a2)) = v, fun ρ w v => .bool (decide (a1 = a2)) = v, fun ρ w v => undef = v, fun ρ w v => undef = v, fun ρ w v => undef = v, fun ρ w v => undef = v, fun ρ w v => undef = v, fun ρ w v => undef = v, fun ρ w v => undef = v, fun ρ w v => undef = v, fun ρ w v => undef = v, fun ρ w v => undef = v, fun ρ w v => undef = v, fun ρ w v => undef = v, fun ρ w v => undef = v, fun ρ w v => undef = v, fun ρ w v => undef = v, fun ρ w v => undef = v] ?_ hw ⟨o1, o2, o3⟩ hf ?_ ?_
            · intro ρ w ρ' w' hE hG
              obtain ⟨o1, o2, o3⟩ := hG
              exact ⟨o1.ext hE, o2.ext hE, o3.ext hE⟩
            · exact LastsL.cons (fun _ _ _ _ _ _ h => h) <| LastsL.cons (fun _ _ _ _ _ _ h => h) <| LastsL.cons (fun _ _ _ _ _ _ h => h) <| LastsL.cons (fun _ _ _ _ _ _ h => h) <| LastsL.cons (fun _ _ _ _ _ _ h => h) <| LastsL.cons (fun _ _ _ _ _ _ h => h) <| LastsL.cons (fun _ _ _ _ _ _ h => h) <| LastsL.cons (fun _ _ _ _ _ _ h => h) <| LastsL.cons (fun _ _ _ _ _ _ h => h) <| LastsL.cons (fun _ _ _ _ _ _ h => h) <| LastsL.cons (fun _ _ _ _ _ _ h => h) <| LastsL.cons (fun _ _ _ _ _ _ h => h) <| LastsL.cons (fun _ _ _ _ _ _ h => h) <| LastsL.cons (fun _ _ _ _ _ _ h => h) <| LastsL.cons (fun _ _ _ _ _ _ h => h) <| LastsL.cons (fun _ _ _ _ _ _ h => h) <| LastsL.cons (fun _ _ _ _ _ _ h => h) <| LastsL.cons (fun _ _ _ _ _ _ h => h) <| LastsL.cons (fun _ _ _ _ _ _ h => h) <| LastsL.cons (fun _ _ _ _ _ _ h => h) <| LastsL.nil
            · refine StepsB.cons ?_ <| StepsB.cons ?_ <| StepsB.cons ?_ <| StepsB.cons ?_ <| StepsB.cons ?_ <| StepsB.cons ?_ <| StepsB.cons ?_ <| StepsB.cons ?_ <| StepsB.cons ?_ <| StepsB.cons ?_ <| StepsB.cons ?_ <| StepsB.cons ?_ <| StepsB.cons ?_ <| StepsB.cons ?_ <| StepsB.cons ?_ <| StepsB.cons ?_ <| StepsB.cons ?_ <| StepsB.cons ?_ <| StepsB.cons ?_ <| StepsB.cons ?_ <| StepsB.nil
              · intro ρ w a hw hG hf hd K hK
                obtain ⟨o1, o2, o3⟩ := hG
                exact d_val (R := fun ρ w v => .int .i64 a1 = v) hw (wn rfl) (r_move hf rfl) rfl rfl hK
              · intro ρ w a hw hG hf hd K hK
                obtain ⟨o1, o2, o3⟩ := hG
                exact d_val (R := fun ρ w v => .int .i64 a2 = v) hw (wn rfl) (r_move hf rfl) rfl rfl hK
              · intro ρ w a hw hG hf hd K hK
                obtain ⟨o1, o2, o3⟩ := hG
                obtain ⟨_, ht, rfl⟩ := hd 0 (by kernel_rfl)
                replace hf := hf.more ht
                obtain ⟨_, ht, rfl⟩ := hd 1 (by kernel_rfl)
                replace hf := hf.more ht
                exact d_val (R := fun ρ w v => .bool (decide (a1 = a2)) = v) hw (wn rfl) (r_eql hf rfl rfl) rfl rfl hK
              · intro ρ w a hw hG hf hd K hK
                obtain ⟨o1, o2, o3⟩ := hG
                obtain ⟨_, ht, rfl⟩ := hd 2 (by kernel_rfl)
                replace hf := hf.more ht
                exact d_val (R := fun ρ w v => .bool (decide (a1 = a2)) = v) hw (wn rfl) (r_move hf rfl) rfl rfl hK
              · intro ρ w a hw hG hf hd K hK
                obtain ⟨o1, o2, o3⟩ := hG
                obtain ⟨_, ht, rfl⟩ := hd 3 (by kernel_rfl)
                replace hf := hf.more ht
                exact d_off (R := fun ρ w v => undef = v) (b := true) hw hf rfl rfl rfl hb15 rfl rfl hK
              · intro ρ w a hw hG hf hd K hK
                obtain ⟨o1, o2, o3⟩ := hG
                obtain ⟨_, ht, rfl⟩ := hd 3 (by kernel_rfl)
                replace hf := hf.more ht
                obtain ⟨_, ht, rfl⟩ := hd 4 (by kernel_rfl)
                replace hf := hf.more ht
                exact d_off (R := fun ρ w v => undef = v) (b := true) hw hf rfl rfl rfl hb15 rfl rfl hK
              · intro ρ w a hw hG hf hd K hK
                obtain ⟨o1, o2, o3⟩ := hG
                obtain ⟨_, ht, rfl⟩ := hd 3 (by kernel_rfl)
                replace hf := hf.more ht
                exact d_off (R := fun ρ w v => undef = v) (b := true) hw hf rfl rfl rfl hb15 rfl rfl hK
              · intro ρ w a hw hG hf hd K hK
                obtain ⟨o1, o2, o3⟩ := hG
                obtain ⟨_, ht, rfl⟩ := hd 3 (by kernel_rfl)
                replace hf := hf.more ht
                obtain ⟨_, ht, rfl⟩ := hd 5 (by kernel_rfl)
                replace hf := hf.more ht
                obtain ⟨_, ht, rfl⟩ := hd 6 (by kernel_rfl)
                replace hf := hf.more ht
                exact d_off (R := fun ρ w v => undef = v) (b := true) hw hf rfl rfl rfl hb15 rfl rfl hK
              · intro ρ w a hw hG hf hd K hK
                obtain ⟨o1, o2, o3⟩ := hG
                obtain ⟨_, ht, rfl⟩ := hd 3 (by kernel_rfl)
                replace hf := hf.more ht
                obtain ⟨_, ht, rfl⟩ := hd 7 (by kernel_rfl)
                replace hf := hf.more ht
                exact d_off (R := fun ρ w v => undef = v) (b := true) hw hf rfl rfl rfl hb15 rfl rfl hK
              · intro ρ w a hw hG hf hd K hK
                obtain ⟨o1, o2, o3⟩ := hG
                obtain ⟨_, ht, rfl⟩ := hd 3 (by kernel_rfl)
                replace hf := hf.more ht
                obtain ⟨_, ht, rfl⟩ := hd 8 (by kernel_rfl)
                replace hf := hf.more ht
                exact d_off (R := fun ρ w v => undef = v) (b := true) hw hf rfl rfl rfl hb15 rfl rfl hK
              · intro ρ w a hw hG hf hd K hK
                obtain ⟨o1, o2, o3⟩ := hG
                obtain ⟨_, ht, rfl⟩ := hd 3 (by kernel_rfl)
                replace hf := hf.more ht
                exact d_off (R := fun ρ w v => undef = v) (b := true) hw hf rfl rfl rfl hb15 rfl rfl hK
              · intro ρ w a hw hG hf hd K hK
                obtain ⟨o1, o2, o3⟩ := hG
                obtain ⟨_, ht, rfl⟩ := hd 3 (by kernel_rfl)
                replace hf := hf.more ht
                obtain ⟨_, ht, rfl⟩ := hd 9 (by kernel_rfl)
                replace hf := hf.more ht
                obtain ⟨_, ht, rfl⟩ := hd 10 (by kernel_rfl)
                replace hf := hf.more ht
                exact d_off (R := fun ρ w v => undef = v) (b := true) hw hf rfl rfl rfl hb15 rfl rfl hK
              · intro ρ w a hw hG hf hd K hK
                obtain ⟨o1, o2, o3⟩ := hG
                obtain ⟨_, ht, rfl⟩ := hd 3 (by kernel_rfl)
                replace hf := hf.more ht
                exact d_off (R := fun ρ w v => undef = v) (b := true) hw hf rfl rfl rfl hb15 rfl rfl hK
              · intro ρ w a hw hG hf hd K hK
                obtain ⟨o1, o2, o3⟩ := hG
                obtain ⟨_, ht, rfl⟩ := hd 3 (by kernel_rfl)
                replace hf := hf.more ht
                obtain ⟨_, ht, rfl⟩ := hd 12 (by kernel_rfl)
                replace hf := hf.more ht
                exact d_off (R := fun ρ w v => undef = v) (b := true) hw hf rfl rfl rfl hb15 rfl rfl hK
              · intro ρ w a hw hG hf hd K hK
                obtain ⟨o1, o2, o3⟩ := hG
                obtain ⟨_, ht, rfl⟩ := hd 3 (by kernel_rfl)
                replace hf := hf.more ht
                exact d_off (R := fun ρ w v => undef = v) (b := true) hw hf rfl rfl rfl hb15 rfl rfl hK
              · intro ρ w a hw hG hf hd K hK
                obtain ⟨o1, o2, o3⟩ := hG
                obtain ⟨_, ht, rfl⟩ := hd 3 (by kernel_rfl)
                replace hf := hf.more ht
                obtain ⟨_, ht, rfl⟩ := hd 13 (by kernel_rfl)
                replace hf := hf.more ht
                obtain ⟨_, ht, rfl⟩ := hd 14 (by kernel_rfl)
                replace hf := hf.more ht
                exact d_off (R := fun ρ w v => undef = v) (b := true) hw hf rfl rfl rfl hb15 rfl rfl hK
              · intro ρ w a hw hG hf hd K hK
                obtain ⟨o1, o2, o3⟩ := hG
                obtain ⟨_, ht, rfl⟩ := hd 3 (by kernel_rfl)
                replace hf := hf.more ht
                obtain ⟨_, ht, rfl⟩ := hd 15 (by kernel_rfl)
                replace hf := hf.more ht
                exact d_off (R := fun ρ w v => undef = v) (b := true) hw hf rfl rfl rfl hb15 rfl rfl hK
              · intro ρ w a hw hG hf hd K hK
                obtain ⟨o1, o2, o3⟩ := hG
                obtain ⟨_, ht, rfl⟩ := hd 3 (by kernel_rfl)
                replace hf := hf.more ht
                obtain ⟨_, ht, rfl⟩ := hd 16 (by kernel_rfl)
                replace hf := hf.more ht
                exact d_off (R := fun ρ w v => undef = v) (b := true) hw hf rfl rfl rfl hb15 rfl rfl hK
              · intro ρ w a hw hG hf hd K hK
                obtain ⟨o1, o2, o3⟩ := hG
                obtain ⟨_, ht, rfl⟩ := hd 3 (by kernel_rfl)
                replace hf := hf.more ht
                exact d_off (R := fun ρ w v => undef = v) (b := true) hw hf rfl rfl rfl hb15 rfl rfl hK
              · intro ρ w a hw hG hf hd K hK
                obtain ⟨o1, o2, o3⟩ := hG
                obtain ⟨_, ht, rfl⟩ := hd 3 (by kernel_rfl)
                replace hf := hf.more ht
                obtain ⟨_, ht, rfl⟩ := hd 17 (by kernel_rfl)
                replace hf := hf.more ht
                obtain ⟨_, ht, rfl⟩ := hd 18 (by kernel_rfl)
                replace hf := hf.more ht
                exact d_off (R := fun ρ w v => undef = v) (b := true) hw hf rfl rfl rfl hb15 rfl rfl hK
            · intro ρ w a hw hG hf hd
              obtain ⟨o1, o2, o3⟩ := hG
              replace hf : Fr 73 a [(1, .int .i64 a1), (2, .int .i64 a2), (3, .int .i64 a3), (4, .int .i64 a4), (5, .pointer (some ((⟨g1, 0, none⟩ : Addr).add 0))), (10, .pointer (some ((⟨g2, 0, none⟩ : Addr).add 0)))] := hf
              obtain ⟨_, ht, rfl⟩ := hd 3 (by decide)
              replace hf := hf.more ht
              obtain ⟨_, ht, rfl⟩ := hd 11 (by decide)
              replace hf := hf.more ht
              obtain ⟨_, ht, rfl⟩ := hd 19 (by decide)
              replace hf := hf.more ht
              refine st_no (b := true) hf rfl rfl rfl hb15 rfl (by decide) fun a hf => ?_
              refine st hf rfl rfl (by decide) (r_pick (b := true) hf rfl hb15 rfl) fun a hf => ?_
              refine st hf rfl rfl (by decide) (r_assign hf rfl) fun a hf => ?_
              refine c_nil ⟨rfl, ?_⟩
              obtain rfl := Option.some.inj hF
              exact ⟨_, hw, hf.sub ⟨rfl, rfl, rfl, rfl, rfl, rfl, rfl, trivial⟩, o1, o2, o3⟩
          · obtain ⟨hc16, hF⟩ := of_guard hF
            obtain ⟨ad17, c17, he17, hl17⟩ := Ro.el cProd h0 zProd hc16.1 hc16.2
            obtain ⟨x18, hx19, hF⟩ := of_bind hF
            obtain ⟨hc20, hF⟩ := of_guard hF
            obtain ⟨hc21, hF⟩ := of_guard hF
            obtain ⟨ad22, c22, he22, hl22⟩ := Ro.el cProd h0 zProd hc21.1 hc21.2
            obtain ⟨x23, hx24, hF⟩ := of_bind hF
            replace hf : Fr 73 a [(1, .int .i64 a1), (2, .int .i64 a2), (3, .int .i64 a3), (4, .int .i64 a4), (5, .pointer (some ((⟨g1, 0, none⟩ : Addr).add 0))), (10, .pointer (some ((⟨g2, 0, none⟩ : Addr).add 0)))] := hf.sub ⟨rfl, rfl, rfl, rfl, rfl, rfl, trivial⟩
            refine c_drawL (h := 20) mixed (by kernel_rfl) (by kernel_rfl) (fun ρ w => Va ρ w 1 g1 28 ([.int .i64 a0.p, .int .i64 a0.n, .int .i64 a0.m, .int .i64 a0.k, va0]) ∧ Va ρ w 2 g2 28 ([.int .i64 0, .int .i64 0, .int .i64 0, .int .i64 0, (.slice none 0 0)]) ∧ Ow (kf cProd) 78 ρ w w0.heap.size 3 (.slice none 0 0) ([] : List Prod)) ?_ [fun ρ w v => .int .i64 a1 = v, fun ρ w v => .int .i64 a2 = v, fun ρ w v => .bool (decide (a1 = a2)) = v, fun ρ w v => .bool (decide (a1 = a2)) = v, fun ρ w v => .pointer (some ((⟨g1, 0, none⟩ : Addr).add (0 + 4))) = v, fun ρ w v => va0 = v, fun ρ w v => .int .i64 a1 = v, fun ρ w v => .pointer (some (ad17.add (a1.toNat * 27))) = v, fun ρ w v => .agg (cProd.enc (gl zProd a0.ps a1)).toArray = v, fun ρ w v => .agg (cForms.enc x18).toArray = v, fun ρ w v => .int .i64 a3 = v, fun ρ w v => .agg (cForm.enc (vg zForm x18 a3)).toArray = v, fun ρ w v => .pointer (some ((⟨g1, 0, none⟩ : Addr).add (0 + 4))) = v, fun ρ w v => va0 = v, fun ρ w v => .int .i64 a2 = v, fun ρ w v => .pointer (some (ad22.add (a2.toNat * 27))) = v, fun ρ w v => .agg (cProd.enc (gl zProd a0.ps a2)).toArray = v, fun ρ w v => .agg (cForms.enc x23).toArray = v, fun ρ w v => .int .i64 a3 = v, fun ρ w v => .agg (cForm.enc (vg zForm x23 a3)).toArray = v] ?_ hw ⟨o1, o2, o3⟩ hf ?_ ?_
            · intro ρ w ρ' w' hE hG
              obtain ⟨o1, o2, o3⟩ := hG
              exact ⟨o1.ext hE, o2.ext hE, o3.ext hE⟩
            · exact LastsL.cons (fun _ _ _ _ _ _ h => h) <| LastsL.cons (fun _ _ _ _ _ _ h => h) <| LastsL.cons (fun _ _ _ _ _ _ h => h) <| LastsL.cons (fun _ _ _ _ _ _ h => h) <| LastsL.cons (fun _ _ _ _ _ _ h => h) <| LastsL.cons (fun _ _ _ _ _ _ h => h) <| LastsL.cons (fun _ _ _ _ _ _ h => h) <| LastsL.cons (fun _ _ _ _ _ _ h => h) <| LastsL.cons (fun _ _ _ _ _ _ h => h) <| LastsL.cons (fun _ _ _ _ _ _ h => h) <| LastsL.cons (fun _ _ _ _ _ _ h => h) <| LastsL.cons (fun _ _ _ _ _ _ h => h) <| LastsL.cons (fun _ _ _ _ _ _ h => h) <| LastsL.cons (fun _ _ _ _ _ _ h => h) <| LastsL.cons (fun _ _ _ _ _ _ h => h) <| LastsL.cons (fun _ _ _ _ _ _ h => h) <| LastsL.cons (fun _ _ _ _ _ _ h => h) <| LastsL.cons (fun _ _ _ _ _ _ h => h) <| LastsL.cons (fun _ _ _ _ _ _ h => h) <| LastsL.cons (fun _ _ _ _ _ _ h => h) <| LastsL.nil
            · refine StepsB.cons ?_ <| StepsB.cons ?_ <| StepsB.cons ?_ <| StepsB.cons ?_ <| StepsB.cons ?_ <| StepsB.cons ?_ <| StepsB.cons ?_ <| StepsB.cons ?_ <| StepsB.cons ?_ <| StepsB.cons ?_ <| StepsB.cons ?_ <| StepsB.cons ?_ <| StepsB.cons ?_ <| StepsB.cons ?_ <| StepsB.cons ?_ <| StepsB.cons ?_ <| StepsB.cons ?_ <| StepsB.cons ?_ <| StepsB.cons ?_ <| StepsB.cons ?_ <| StepsB.nil
              · intro ρ w a hw hG hf hd K hK
                obtain ⟨o1, o2, o3⟩ := hG
                exact d_val (R := fun ρ w v => .int .i64 a1 = v) hw (wn rfl) (r_move hf rfl) rfl rfl hK
              · intro ρ w a hw hG hf hd K hK
                obtain ⟨o1, o2, o3⟩ := hG
                exact d_val (R := fun ρ w v => .int .i64 a2 = v) hw (wn rfl) (r_move hf rfl) rfl rfl hK
              · intro ρ w a hw hG hf hd K hK
                obtain ⟨o1, o2, o3⟩ := hG
                obtain ⟨_, ht, rfl⟩ := hd 0 (by kernel_rfl)
                replace hf := hf.more ht
                obtain ⟨_, ht, rfl⟩ := hd 1 (by kernel_rfl)
                replace hf := hf.more ht
                exact d_val (R := fun ρ w v => .bool (decide (a1 = a2)) = v) hw (wn rfl) (r_eql hf rfl rfl) rfl rfl hK
              · intro ρ w a hw hG hf hd K hK
                obtain ⟨o1, o2, o3⟩ := hG
                obtain ⟨_, ht, rfl⟩ := hd 2 (by kernel_rfl)
                replace hf := hf.more ht
                exact d_val (R := fun ρ w v => .bool (decide (a1 = a2)) = v) hw (wn rfl) (r_move hf rfl) rfl rfl hK
              · intro ρ w a hw hG hf hd K hK
                obtain ⟨o1, o2, o3⟩ := hG
                obtain ⟨_, ht, rfl⟩ := hd 3 (by kernel_rfl)
                replace hf := hf.more ht
                exact d_val (R := fun ρ w v => .pointer (some ((⟨g1, 0, none⟩ : Addr).add (0 + 4))) = v) hw (wg (b := false) hf rfl rfl rfl hb15) (r_fa fa28_4 hf rfl) rfl rfl hK
              · intro ρ w a hw hG hf hd K hK
                obtain ⟨o1, o2, o3⟩ := hG
                obtain ⟨_, ht, rfl⟩ := hd 3 (by kernel_rfl)
                replace hf := hf.more ht
                obtain ⟨_, ht, rfl⟩ := hd 4 (by kernel_rfl)
                replace hf := hf.more ht
                exact d_val (R := fun ρ w v => va0 = v) hw (wg (b := false) hf rfl rfl rfl hb15) (r_load_cell ty26 hf rfl (o1.cl.at_ 4 _ rfl)) rfl rfl hK
              · intro ρ w a hw hG hf hd K hK
                obtain ⟨o1, o2, o3⟩ := hG
                obtain ⟨_, ht, rfl⟩ := hd 3 (by kernel_rfl)
                replace hf := hf.more ht
                exact d_val (R := fun ρ w v => .int .i64 a1 = v) hw (wg (b := false) hf rfl rfl rfl hb15) (r_move hf rfl) rfl rfl hK
              · intro ρ w a hw hG hf hd K hK
                obtain ⟨o1, o2, o3⟩ := hG
                obtain ⟨_, ht, rfl⟩ := hd 3 (by kernel_rfl)
                replace hf := hf.more ht
                obtain ⟨_, ht, rfl⟩ := hd 5 (by kernel_rfl)
                replace hf := hf.more ht
                obtain ⟨_, ht, rfl⟩ := hd 6 (by kernel_rfl)
                replace hf := hf.more ht
                exact d_val (R := fun ρ w v => .pointer (some (ad17.add (a1.toNat * 27))) = v) hw (wg (b := false) hf rfl rfl rfl hb15) (r_idx Try.underlying26 sz78 hf rfl ⟨_, he17⟩ rfl hc16.1 hc16.2) rfl rfl hK
              · intro ρ w a hw hG hf hd K hK
                obtain ⟨o1, o2, o3⟩ := hG
                obtain ⟨_, ht, rfl⟩ := hd 3 (by kernel_rfl)
                replace hf := hf.more ht
                obtain ⟨_, ht, rfl⟩ := hd 7 (by kernel_rfl)
                replace hf := hf.more ht
                exact d_val (R := fun ρ w v => .agg (cProd.enc (gl zProd a0.ps a1)).toArray = v) hw (wg (b := false) hf rfl rfl rfl hb15) (r_load_agg ty78 hf rfl (hl17.below hw.below) (cProd.len _)) rfl rfl hK
              · intro ρ w a hw hG hf hd K hK
                obtain ⟨o1, o2, o3⟩ := hG
                obtain ⟨_, ht, rfl⟩ := hd 3 (by kernel_rfl)
                replace hf := hf.more ht
                obtain ⟨_, ht, rfl⟩ := hd 8 (by kernel_rfl)
                replace hf := hf.more ht
                refine d_call (R := fun ρ w v => .agg (cForms.enc x18).toArray = v) hw (wg (b := false) hf rfl rfl rfl hb15) (r_fn en87 hf rfl) (impl_factors_ok  hx19) rfl (fun v w' hΦ => ?_) hK
                obtain ⟨hb, hΦ⟩ := hΦ
                obtain rfl := hΦ
                have hE := Ext.new (ρ := ρ) 9 hb
                exact ⟨_, hw.new 9 hb, hE, rfl⟩
              · intro ρ w a hw hG hf hd K hK
                obtain ⟨o1, o2, o3⟩ := hG
                obtain ⟨_, ht, rfl⟩ := hd 3 (by kernel_rfl)
                replace hf := hf.more ht
                exact d_val (R := fun ρ w v => .int .i64 a3 = v) hw (wg (b := false) hf rfl rfl rfl hb15) (r_move hf rfl) rfl rfl hK
              · intro ρ w a hw hG hf hd K hK
                obtain ⟨o1, o2, o3⟩ := hG
                obtain ⟨_, ht, rfl⟩ := hd 3 (by kernel_rfl)
                replace hf := hf.more ht
                obtain ⟨_, ht, rfl⟩ := hd 9 (by kernel_rfl)
                replace hf := hf.more ht
                obtain ⟨_, ht, rfl⟩ := hd 10 (by kernel_rfl)
                replace hf := hf.more ht
                exact d_val (R := fun ρ w v => .agg (cForm.enc (vg zForm x18 a3)).toArray = v) hw (wg (b := false) hf rfl rfl rfl hb15) (r_index_la Try.underlying91 ty39 hf rfl rfl hc20.1 hc20.2 (Lens.vec zForm cForm a3 hc20.1 hc20.2)) rfl rfl hK
              · intro ρ w a hw hG hf hd K hK
                obtain ⟨o1, o2, o3⟩ := hG
                obtain ⟨_, ht, rfl⟩ := hd 3 (by kernel_rfl)
                replace hf := hf.more ht
                exact d_val (R := fun ρ w v => .pointer (some ((⟨g1, 0, none⟩ : Addr).add (0 + 4))) = v) hw (wg (b := false) hf rfl rfl rfl hb15) (r_fa fa28_4 hf rfl) rfl rfl hK
              · intro ρ w a hw hG hf hd K hK
                obtain ⟨o1, o2, o3⟩ := hG
                obtain ⟨_, ht, rfl⟩ := hd 3 (by kernel_rfl)
                replace hf := hf.more ht
                obtain ⟨_, ht, rfl⟩ := hd 12 (by kernel_rfl)
                replace hf := hf.more ht
                exact d_val (R := fun ρ w v => va0 = v) hw (wg (b := false) hf rfl rfl rfl hb15) (r_load_cell ty26 hf rfl (o1.cl.at_ 4 _ rfl)) rfl rfl hK
              · intro ρ w a hw hG hf hd K hK
                obtain ⟨o1, o2, o3⟩ := hG
                obtain ⟨_, ht, rfl⟩ := hd 3 (by kernel_rfl)
                replace hf := hf.more ht
                exact d_val (R := fun ρ w v => .int .i64 a2 = v) hw (wg (b := false) hf rfl rfl rfl hb15) (r_move hf rfl) rfl rfl hK
              · intro ρ w a hw hG hf hd K hK
                obtain ⟨o1, o2, o3⟩ := hG
                obtain ⟨_, ht, rfl⟩ := hd 3 (by kernel_rfl)
                replace hf := hf.more ht
                obtain ⟨_, ht, rfl⟩ := hd 13 (by kernel_rfl)
                replace hf := hf.more ht
                obtain ⟨_, ht, rfl⟩ := hd 14 (by kernel_rfl)
                replace hf := hf.more ht
                exact d_val (R := fun ρ w v => .pointer (some (ad22.add (a2.toNat * 27))) = v) hw (wg (b := false) hf rfl rfl rfl hb15) (r_idx Try.underlying26 sz78 hf rfl ⟨_, he22⟩ rfl hc21.1 hc21.2) rfl rfl hK
              · intro ρ w a hw hG hf hd K hK
                obtain ⟨o1, o2, o3⟩ := hG
                obtain ⟨_, ht, rfl⟩ := hd 3 (by kernel_rfl)
                replace hf := hf.more ht
                obtain ⟨_, ht, rfl⟩ := hd 15 (by kernel_rfl)
                replace hf := hf.more ht
                exact d_val (R := fun ρ w v => .agg (cProd.enc (gl zProd a0.ps a2)).toArray = v) hw (wg (b := false) hf rfl rfl rfl hb15) (r_load_agg ty78 hf rfl (hl22.below hw.below) (cProd.len _)) rfl rfl hK
              · intro ρ w a hw hG hf hd K hK
                obtain ⟨o1, o2, o3⟩ := hG
                obtain ⟨_, ht, rfl⟩ := hd 3 (by kernel_rfl)
                replace hf := hf.more ht
                obtain ⟨_, ht, rfl⟩ := hd 16 (by kernel_rfl)
                replace hf := hf.more ht
                refine d_call (R := fun ρ w v => .agg (cForms.enc x23).toArray = v) hw (wg (b := false) hf rfl rfl rfl hb15) (r_fn en87 hf rfl) (impl_factors_ok  hx24) rfl (fun v w' hΦ => ?_) hK
                obtain ⟨hb, hΦ⟩ := hΦ
                obtain rfl := hΦ
                have hE := Ext.new (ρ := ρ) 10 hb
                exact ⟨_, hw.new 10 hb, hE, rfl⟩
              · intro ρ w a hw hG hf hd K hK
                obtain ⟨o1, o2, o3⟩ := hG
                obtain ⟨_, ht, rfl⟩ := hd 3 (by kernel_rfl)
                replace hf := hf.more ht
                exact d_val (R := fun ρ w v => .int .i64 a3 = v) hw (wg (b := false) hf rfl rfl rfl hb15) (r_move hf rfl) rfl rfl hK
              · intro ρ w a hw hG hf hd K hK
                obtain ⟨o1, o2, o3⟩ := hG
                obtain ⟨_, ht, rfl⟩ := hd 3 (by kernel_rfl)
                replace hf := hf.more ht
                obtain ⟨_, ht, rfl⟩ := hd 17 (by kernel_rfl)
                replace hf := hf.more ht
                obtain ⟨_, ht, rfl⟩ := hd 18 (by kernel_rfl)
                replace hf := hf.more ht
                exact d_val (R := fun ρ w v => .agg (cForm.enc (vg zForm x23 a3)).toArray = v) hw (wg (b := false) hf rfl rfl rfl hb15) (r_index_la Try.underlying91 ty39 hf rfl rfl hc20.1 hc20.2 (Lens.vec zForm cForm a3 hc20.1 hc20.2)) rfl rfl hK
            · intro ρ w a hw hG hf hd
              obtain ⟨o1, o2, o3⟩ := hG
              replace hf : Fr 73 a [(1, .int .i64 a1), (2, .int .i64 a2), (3, .int .i64 a3), (4, .int .i64 a4), (5, .pointer (some ((⟨g1, 0, none⟩ : Addr).add 0))), (10, .pointer (some ((⟨g2, 0, none⟩ : Addr).add 0)))] := hf
              obtain ⟨_, ht, rfl⟩ := hd 3 (by decide)
              replace hf := hf.more ht
              obtain ⟨_, ht, rfl⟩ := hd 11 (by decide)
              replace hf := hf.more ht
              obtain ⟨_, ht, rfl⟩ := hd 19 (by decide)
              replace hf := hf.more ht
              refine st_g (b := false) hf rfl rfl rfl hb15 rfl (by decide) (r_ne (d := cForm) eq39 ⟨_, rfl⟩ gt39 hf rfl rfl) fun a hf => ?_
              refine st hf rfl rfl (by decide) (r_pick (b := false) hf rfl hb15 rfl) fun a hf => ?_
              refine st hf rfl rfl (by decide) (r_assign hf rfl) fun a hf => ?_
              refine c_nil ⟨rfl, ?_⟩
              obtain rfl := Option.some.inj hF
              exact ⟨_, hw, hf.sub ⟨rfl, rfl, rfl, rfl, rfl, rfl, rfl, trivial⟩, o1, o2, o3⟩
        · rintro a w ⟨ρ, hw, hf, o1, o2, o3⟩
          replace hf : Fr 73 a [(1, .int .i64 a1), (2, .int .i64 a2), (3, .int .i64 a3), (4, .int .i64 a4), (5, .pointer (some ((⟨g1, 0, none⟩ : Addr).add 0))), (10, .pointer (some ((⟨g2, 0, none⟩ : Addr).add 0))), (43, .bool s14)] := hf
          replace o1 : Va ρ w 1 g1 28 ([.int .i64 a0.p, .int .i64 a0.n, .int .i64 a0.m, .int .i64 a0.k, va0]) := o1
          replace o2 : Va ρ w 2 g2 28 ([.int .i64 0, .int .i64 0, .int .i64 0, .int .i64 0, (.slice none 0 0)]) := o2
          replace o3 : Ow (kf cProd) 78 ρ w w0.heap.size 3 (.slice none 0 0) ([] : List Prod) := o3
          have hF := hG13
          refine n_then ?_
          rcases of_ite hF with ⟨hb25, hF⟩ | ⟨hb25, hF⟩
          · refine c_ift hf rfl hb25 ?_
            refine c_seq ?_
            refine c_region ?_
            have o11 : Ow (kf cProd) 78 ρ w w0.heap.size 11 (.slice none 0 0) [] := Ow.nil _ _ _ _ _ _
            refine st hf rfl rfl (by decide) (r_build_struct (pl := [(0, 1), (1, 1), (2, 1), (3, 1), (4, 1)]) (vs := []) (res := ([.int .i64 0, .int .i64 0, .int .i64 0, .int .i64 0, (.slice none 0 0)]).toArray) Try.underlying28 (by kernel_rfl) ze28 hf rfl rfl rfl) fun a hf => ?_
            refine st_skip hf rfl rfl (r_store_w (cs' := [.int .i64 0, .int .i64 0, .int .i64 0, .int .i64 0, (.slice none 0 0)]) hw o2 (by decide) ty28 rfl rfl (one_sch o11.ro.one) hf rfl rfl rfl) fun a w hf hΦ => ?_
            obtain ⟨hw, hA, o2⟩ := hΦ
            replace o1 := o1.adv hA (by decide)
            replace o3 := o3.adv hA (by decide)
            replace o11 := o11.adv hA (by decide)
            refine st hf rfl rfl (by decide) (r_assign hf rfl) fun a hf => ?_
            refine c_nt ?_
            refine c_retc ?_
            obtain rfl := Option.some.inj hF
            refine r_block ?_
            refine r_then ?_
            refine c_ret hf (res_ct Try.results28 ty28 hf rfl o2.cl rfl rfl) ?_
            exact ⟨_, rfl, hw.below, ⟨_, rfl, o11.out⟩⟩
          · refine c_iff hf rfl hb25 ?_
            refine c_skip ?_
            refine n_block ?_
            refine n_then ?_
            refine c_seq ?_
            refine c_region ?_
            refine st hf rfl rfl (by decide) (r_load_agg ty28 hf rfl o1.cl rfl) fun a hf => ?_
            refine st hf rfl rfl (by decide) (r_move hf rfl) fun a hf => ?_
            refine st hf rfl rfl (by decide) (r_move hf rfl) fun a hf => ?_
            refine st hf rfl rfl (by decide) (r_move hf rfl) fun a hf => ?_
            refine st hf rfl rfl (by decide) (r_move hf rfl) fun a hf => ?_
            obtain ⟨x26, hx27, hF⟩ := of_bind hF
            refine st_fn 12 hw hf rfl rfl (by decide) (r_fn en90 hf rfl) (impl_flip_ok (a0 := a0) (h0.now hw) hx27) fun a v w ρ hf hw hE hN hΦ => ?_
            obtain ⟨u28, rfl, hr29⟩ := hΦ
            replace o1 := o1.ext hE
            replace o2 := o2.ext hE
            replace o3 := o3.ext hE
            have o12 := hN hr29
            refine st_skip hf rfl rfl (r_store_w (cs' := [.int .i64 x26.p, .int .i64 x26.n, .int .i64 x26.m, .int .i64 x26.k, u28]) hw o2 (by decide) ty28 rfl rfl (one_sch o12.ro.one) hf rfl rfl rfl) fun a w hf hΦ => ?_
            obtain ⟨hw, hA, o2⟩ := hΦ
            replace o1 := o1.adv hA (by decide)
            replace o3 := o3.adv hA (by decide)
            replace o12 := o12.adv hA (by decide)
            refine st hf rfl rfl (by decide) (r_assign hf rfl) fun a hf => ?_
            refine c_nt ?_
            refine c_retc ?_
            obtain rfl := Option.some.inj hF
            refine c_ret hf (res_ct Try.results28 ty28 hf rfl o2.cl rfl rfl) ?_
            exact ⟨_, rfl, hw.below, ⟨_, rfl, o12.out⟩⟩
/-! f7 -/
noncomputable def laws_FnExactFlipProducts (a0 : Sch) (a1 : Int) (a2 : Int) (a3 : Int) (a4 : Int) : Option Bool :=
  (laws_szScheme a0 1048576).bind fun x1 => if (decide (x1 < 0)) = true then (some (true)) else ((laws_toScheme a0).bind fun x4 => (spec_FlipProducts x4 a1 a2 a3 a4).bind fun x8 => (laws_toScheme a0).bind fun x12 => (impl_FlipProducts x12 a1 a2 a3 a4).bind fun x16 => ((laws_eqScheme x16.1 x8.1).bind fun x22 => if (!x22) = true then (some true) else (some (decide (x16.2 ≠ x8.2)))).bind fun (s21 : Bool) => if s21 = true then (some (false)) else ((laws_toScheme a0).bind fun x26 => (laws_eqScheme x12 x26).bind fun x30 => if (!x30) = true then (some (false)) else ((laws_markScheme x12 1).bind fun x33 => (if (decide (x33.1 < 0)) = true then (some true) else ((laws_eqScheme x16.1 x8.1).bind fun x38 => if (!x38) = true then (some true) else (some (decide (x16.2 ≠ x8.2))))).bind fun (s36 : Bool) => if s36 = true then (some (false)) else ((laws_markScheme x16.1 1).bind fun x42 => (laws_heldScheme (⟨x16.1.p, x16.1.n, x16.1.m, x16.1.k, x42.2⟩ : Sch) 1).bind fun x44 => if (decide (x44 < 0)) = true then (some (false)) else (if (decide (x44 ≠ x42.1)) = true then (some (false)) else ((laws_toScheme a0).bind fun x48 => (impl_FlipProducts x48 a1 a2 a3 a4).bind fun x52 => ((laws_eqScheme x52.1 x8.1).bind fun x58 => if (!x58) = true then (some true) else (some (decide (x52.2 ≠ x8.2)))).bind fun (s57 : Bool) => if s57 = true then (some (false)) else ((laws_heldScheme (⟨x16.1.p, x16.1.n, x16.1.m, x16.1.k, x42.2⟩ : Sch) 1).bind fun x62 => if (decide (x62 < 0)) = true then (some (false)) else (if (decide (x62 ≠ x42.1)) = true then (some (false)) else (some (true))))))))))
theorem laws_FnExactFlipProducts_ok {w0 : World} {a0 : Sch} {a1 : Int} {a2 : Int} {a3 : Int} {a4 : Int} {va0 : Value} (h0 : Ro (kf cProd) w0 va0 a0.ps) {r : Bool} (hF : laws_FnExactFlipProducts a0 a1 a2 a3 a4 = some r) :
    Calls Try.prog 7 [.agg ([.int .i64 a0.p, .int .i64 a0.n, .int .i64 a0.m, .int .i64 a0.k, va0]).toArray, .int .i64 a1, .int .i64 a2, .int .i64 a3, .int .i64 a4].toArray w0 fun e w => ∃ v, e = .returned v ∧ Below w0.heap.size w0 w ∧ .bool r = v := by
  refine calls_of (k := 116) Try.func7 rfl rfl (Nat.le_of_ble_eq_true rfl) fun a hf => ?_
  replace hf : Fr 116 a [(0, .agg ([.int .i64 a0.p, .int .i64 a0.n, .int .i64 a0.m, .int .i64 a0.k, va0]).toArray), (1, .int .i64 a1), (2, .int .i64 a2), (3, .int .i64 a3), (4, .int .i64 a4)] := hf
  refine c_start fun w ρ hw => ?_
  unfold laws_FnExactFlipProducts at hF
  refine c_seq ?_
  refine c_region ?_
  refine st_ex hf rfl rfl (by decide) (r_box (cs := [.int .i64 a0.p, .int .i64 a0.n, .int .i64 a0.m, .int .i64 a0.k, va0]) 1 hw hf rfl rfl) fun a v w hf hΦ => ?_
  obtain ⟨g1, ρ, rfl, hw, hE, o1⟩ := hΦ
  refine st hf rfl rfl (by decide) (r_assign hf rfl) fun a hf => ?_
  refine c_nt ?_
  refine c_seq ?_
  refine c_region ?_
  refine st hf rfl rfl (by decide) (r_assign hf rfl) fun a hf => ?_
  refine c_nt ?_
  refine c_seq ?_
  refine c_region ?_
  refine st hf rfl rfl (by decide) (r_load_agg ty24 hf rfl o1.cl rfl) fun a hf => ?_
  refine st hf rfl rfl (by decide) (r_move hf rfl) fun a hf => ?_
  obtain ⟨x1, hx2, hF⟩ := of_bind hF
  refine st_fn 2 hw hf rfl rfl (by decide) (r_fn en13 hf rfl) (laws_szScheme_ok (a0 := a0) (h0.now hw) hx2) fun a v w ρ hf hw hE hN hΦ => ?_
  obtain rfl := hΦ
  replace o1 := o1.ext hE
  refine st hf rfl rfl (by decide) (r_assign hf rfl) fun a hf => ?_
  refine c_nt ?_
  refine c_seq ?_
  refine c_seq ?_
  refine c_region ?_
  refine st hf rfl rfl (by decide) (r_move hf rfl) fun a hf => ?_
  refine st hf rfl rfl (by decide) (r_lss hf rfl rfl) fun a hf => ?_
  refine c_nt ?_
  rcases of_ite hF with ⟨hb3, hF⟩ | ⟨hb3, hF⟩
  · refine c_ift hf rfl hb3 ?_
    refine c_seq ?_
    refine c_region ?_
    refine st hf rfl rfl (by decide) (r_assign hf rfl) fun a hf => ?_
    refine c_nt ?_
    refine c_retc ?_
    obtain rfl := Option.some.inj hF
    refine r_then ?_
    refine c_ret hf (res_tmp Try.results7 hf rfl) ?_
    exact ⟨_, rfl, hw.below, rfl⟩
  · refine c_iff hf rfl hb3 ?_
    refine c_skip ?_
    refine n_then ?_
    refine c_seq ?_
    refine c_region ?_
    refine st hf rfl rfl (by decide) (r_load_agg ty24 hf rfl o1.cl rfl) fun a hf => ?_
    obtain ⟨x4, hx5, hF⟩ := of_bind hF
    refine st_fn 3 hw hf rfl rfl (by decide) (r_fn en15 hf rfl) (laws_toScheme_ok (a0 := a0) (h0.now hw) hx5) fun a v w ρ hf hw hE hN hΦ => ?_
    obtain ⟨u6, rfl, hr7⟩ := hΦ
    replace o1 := o1.ext hE
    have o3 := hN hr7
    refine st hf rfl rfl (by decide) (r_move hf rfl) fun a hf => ?_
    refine st hf rfl rfl (by decide) (r_move hf rfl) fun a hf => ?_
    refine st hf rfl rfl (by decide) (r_move hf rfl) fun a hf => ?_
    refine st hf rfl rfl (by decide) (r_move hf rfl) fun a hf => ?_
    obtain ⟨x8, hx9, hF⟩ := of_bind hF
    refine st_fn 4 hw hf rfl rfl (by decide) (r_fn en27 hf rfl) (spec_FlipProducts_ok (a0 := x4) o3.ro hx9) fun a v w ρ hf hw hE hN hΦ => ?_
    obtain ⟨u10, rfl, hr11⟩ := hΦ
    replace o1 := o1.ext hE
    replace o3 := o3.ext hE
    have o4 := hN hr11
    refine st hf rfl rfl (by decide) (r_move hf rfl) fun a hf => ?_
    refine st hf rfl rfl (by decide) (r_extract hf rfl rfl) fun a hf => ?_
    refine st hf rfl rfl (by decide) (r_extract hf rfl rfl) fun a hf => ?_
    have o6 : Ow (kf cProd) 78 ρ w w0.heap.size 6 (.slice none 0 0) [] := Ow.nil _ _ _ _ _ _
    refine st_ex hf rfl rfl (by decide) (r_alloc (cs := [.int .i64 0, .int .i64 0, .int .i64 0, .int .i64 0, (.slice none 0 0)]) 5 ze28 rfl hw) fun a v w hf hΦ => ?_
    obtain ⟨g5, ρ, rfl, hw, hE, o5⟩ := hΦ
    replace o1 := o1.ext hE
    replace o3 := o3.ext hE
    replace o4 := o4.ext hE
    replace o6 := o6.ext hE
    refine st_skip hf rfl rfl (r_store_w (cs' := [.int .i64 x8.1.p, .int .i64 x8.1.n, .int .i64 x8.1.m, .int .i64 x8.1.k, u10]) hw o5 (by decide) ty28 rfl rfl (one_sch o4.ro.one) hf rfl rfl rfl) fun a w hf hΦ => ?_
    obtain ⟨hw, hA, o5⟩ := hΦ
    replace o1 := o1.adv hA (by decide)
    replace o3 := o3.adv hA (by decide)
    replace o4 := o4.adv hA (by decide)
    replace o6 := o6.adv hA (by decide)
    refine st hf rfl rfl (by decide) (r_assign hf rfl) fun a hf => ?_
    refine c_nt ?_
    refine c_seq ?_
    refine c_region ?_
    refine st hf rfl rfl (by decide) (r_load_agg ty24 hf rfl o1.cl rfl) fun a hf => ?_
    obtain ⟨x12, hx13, hF⟩ := of_bind hF
    refine st_fn 7 hw hf rfl rfl (by decide) (r_fn en15 hf rfl) (laws_toScheme_ok (a0 := a0) (h0.now hw) hx13) fun a v w ρ hf hw hE hN hΦ => ?_
    obtain ⟨u14, rfl, hr15⟩ := hΦ
    replace o1 := o1.ext hE
    replace o3 := o3.ext hE
    replace o4 := o4.ext hE
    replace o6 := o6.ext hE
    replace o5 := o5.ext hE
    have o7 := hN hr15
    have o9 : Ow (kf cProd) 78 ρ w w0.heap.size 9 (.slice none 0 0) [] := Ow.nil _ _ _ _ _ _
    refine st_ex hf rfl rfl (by decide) (r_alloc (cs := [.int .i64 0, .int .i64 0, .int .i64 0, .int .i64 0, (.slice none 0 0)]) 8 ze28 rfl hw) fun a v w hf hΦ => ?_
    obtain ⟨g8, ρ, rfl, hw, hE, o8⟩ := hΦ
    replace o1 := o1.ext hE
    replace o3 := o3.ext hE
    replace o4 := o4.ext hE
    replace o6 := o6.ext hE
    replace o5 := o5.ext hE
    replace o7 := o7.ext hE
    replace o9 := o9.ext hE
    refine st_skip hf rfl rfl (r_store_w (cs' := [.int .i64 x12.p, .int .i64 x12.n, .int .i64 x12.m, .int .i64 x12.k, u14]) hw o8 (by decide) ty28 rfl rfl (one_sch o7.ro.one) hf rfl rfl rfl) fun a w hf hΦ => ?_
    obtain ⟨hw, hA, o8⟩ := hΦ
    replace o1 := o1.adv hA (by decide)
    replace o3 := o3.adv hA (by decide)
    replace o4 := o4.adv hA (by decide)
    replace o6 := o6.adv hA (by decide)
    replace o5 := o5.adv hA (by decide)
    replace o7 := o7.adv hA (by decide)
    replace o9 := o9.adv hA (by decide)
    refine c_nt ?_
    refine c_seq ?_
    refine c_region ?_
    refine st hf rfl rfl (by decide) (r_load_agg ty28 hf rfl o8.cl rfl) fun a hf => ?_
    refine st hf rfl rfl (by decide) (r_move hf rfl) fun a hf => ?_
    refine st hf rfl rfl (by decide) (r_move hf rfl) fun a hf => ?_
    refine st hf rfl rfl (by decide) (r_move hf rfl) fun a hf => ?_
    refine st hf rfl rfl (by decide) (r_move hf rfl) fun a hf => ?_
    obtain ⟨x16, hx17, hF⟩ := of_bind hF
    refine st_fn 10 hw hf rfl rfl (by decide) (r_fn en28 hf rfl) (impl_FlipProducts_ok (a0 := x12) o7.ro hx17) fun a v w ρ hf hw hE hN hΦ => ?_
    obtain ⟨u18, rfl, hr19⟩ := hΦ
    replace o1 := o1.ext hE
    replace o3 := o3.ext hE
    replace o4 := o4.ext hE
    replace o6 := o6.ext hE
    replace o5 := o5.ext hE
    replace o7 := o7.ext hE
    replace o9 := o9.ext hE
    replace o8 := o8.ext hE
    have o10 := hN hr19
    refine st hf rfl rfl (by decide) (r_move hf rfl) fun a hf => ?_
    refine st hf rfl rfl (by decide) (r_extract hf rfl rfl) fun a hf => ?_
    refine st hf rfl rfl (by decide) (r_extract hf rfl rfl) fun a hf => ?_
    have o12 : Ow (kf cProd) 78 ρ w w0.heap.size 12 (.slice none 0 0) [] := Ow.nil _ _ _ _ _ _
    refine st_ex hf rfl rfl (by decide) (r_alloc (cs := [.int .i64 0, .int .i64 0, .int .i64 0, .int .i64 0, (.slice none 0 0)]) 11 ze28 rfl hw) fun a v w hf hΦ => ?_
    obtain ⟨g11, ρ, rfl, hw, hE, o11⟩ := hΦ
    replace o1 := o1.ext hE
    replace o3 := o3.ext hE
    replace o4 := o4.ext hE
    replace o6 := o6.ext hE
    replace o5 := o5.ext hE
    replace o7 := o7.ext hE
    replace o9 := o9.ext hE
    replace o8 := o8.ext hE
    replace o10 := o10.ext hE
    replace o12 := o12.ext hE
    refine st_skip hf rfl rfl (r_store_w (cs' := [.int .i64 x16.1.p, .int .i64 x16.1.n, .int .i64 x16.1.m, .int .i64 x16.1.k, u18]) hw o11 (by decide) ty28 rfl rfl (one_sch o10.ro.one) hf rfl rfl rfl) fun a w hf hΦ => ?_
    obtain ⟨hw, hA, o11⟩ := hΦ
    replace o1 := o1.adv hA (by decide)
    replace o3 := o3.adv hA (by decide)
    replace o4 := o4.adv hA (by decide)
    replace o6 := o6.adv hA (by decide)
    replace o5 := o5.adv hA (by decide)
    replace o7 := o7.adv hA (by decide)
    replace o9 := o9.adv hA (by decide)
    replace o8 := o8.adv hA (by decide)
    replace o10 := o10.adv hA (by decide)
    replace o12 := o12.adv hA (by decide)
    refine st hf rfl rfl (by decide) (r_assign hf rfl) fun a hf => ?_
    refine c_nt ?_
    refine c_seq ?_
    refine c_seq ?_
    obtain ⟨s21, hT20, hG20⟩ := of_bind hF
    clear hF
    refine c_meet (fun (s : Bool) a w => ∃ ρ, Wd w0 ρ w ∧ Fr 116 a [(1, .int .i64 a1), (2, .int .i64 a2), (3, .int .i64 a3), (4, .int .i64 a4), (5, .pointer (some ((⟨g1, 0, none⟩ : Addr).add 0))), (12, .pointer (some ((⟨g5, 0, none⟩ : Addr).add 0))), (13, .int .i64 x8.2), (14, .pointer (some ((⟨g8, 0, none⟩ : Addr).add 0))), (15, .pointer (some ((⟨g11, 0, none⟩ : Addr).add 0))), (16, .int .i64 x16.2), (56, .bool s)] ∧ Va ρ w 1 g1 24 ([.int .i64 a0.p, .int .i64 a0.n, .int .i64 a0.m, .int .i64 a0.k, va0]) ∧ Ow (kf cProd) 78 ρ w w0.heap.size 4 u10 x8.1.ps ∧ Va ρ w 5 g5 28 ([.int .i64 x8.1.p, .int .i64 x8.1.n, .int .i64 x8.1.m, .int .i64 x8.1.k, u10]) ∧ Ow (kf cProd) 78 ρ w w0.heap.size 7 u14 x12.ps ∧ Va ρ w 8 g8 28 ([.int .i64 x12.p, .int .i64 x12.n, .int .i64 x12.m, .int .i64 x12.k, u14]) ∧ Ow (kf cProd) 78 ρ w w0.heap.size 10 u18 x16.1.ps ∧ Va ρ w 11 g11 28 ([.int .i64 x16.1.p, .int .i64 x16.1.n, .int .i64 x16.1.m, .int .i64 x16.1.k, u18])) s21 ?_ ?_
    · have hF := hT20
      refine c_region ?_
      refine st hf rfl rfl (by decide) (r_load_agg ty28 hf rfl o11.cl rfl) fun a hf => ?_
      refine st hf rfl rfl (by decide) (r_load_agg ty28 hf rfl o5.cl rfl) fun a hf => ?_
      obtain ⟨x22, hx23, hF⟩ := of_bind hF
      refine st_fn 13 hw hf rfl rfl (by decide) (r_fn en17 hf rfl) (laws_eqScheme_ok (a0 := x16.1) (a1 := x8.1) o10.ro o4.ro hx23) fun a v w ρ hf hw hE hN hΦ => ?_
      obtain rfl := hΦ
      replace o1 := o1.ext hE
      replace o3 := o3.ext hE
      replace o4 := o4.ext hE
      replace o6 := o6.ext hE
      replace o5 := o5.ext hE
      replace o7 := o7.ext hE
      replace o9 := o9.ext hE
      replace o8 := o8.ext hE
      replace o10 := o10.ext hE
      replace o12 := o12.ext hE
      replace o11 := o11.ext hE
      refine st hf rfl rfl (by decide) (r_not hf rfl) fun a hf => ?_
      refine st hf rfl rfl (by decide) (r_move hf rfl) fun a hf => ?_
      rcases of_ite hF with ⟨hb24, hF⟩ | ⟨hb24, hF⟩
      · refine st_no (b := true) hf rfl rfl rfl hb24 rfl (by decide) fun a hf => ?_
        refine st_no (b := true) hf rfl rfl rfl hb24 rfl (by decide) fun a hf => ?_
        refine st_no (b := true) hf rfl rfl rfl hb24 rfl (by decide) fun a hf => ?_
        refine st hf rfl rfl (by decide) (r_pick (b := true) hf rfl hb24 rfl) fun a hf => ?_
        refine c_nil ⟨rfl, ?_⟩
        obtain rfl := Option.some.inj hF
        exact ⟨_, hw, hf.sub ⟨rfl, rfl, rfl, rfl, rfl, rfl, rfl, rfl, rfl, rfl, rfl, trivial⟩, o1, o4, o5, o7, o8, o10, o11⟩
      · refine st_g (b := false) hf rfl rfl rfl hb24 rfl (by decide) (r_move hf rfl) fun a hf => ?_
        refine st_g (b := false) hf rfl rfl rfl hb24 rfl (by decide) (r_move hf rfl) fun a hf => ?_
        refine st_g (b := false) hf rfl rfl rfl hb24 rfl (by decide) (r_neq hf rfl rfl) fun a hf => ?_
        refine st hf rfl rfl (by decide) (r_pick (b := false) hf rfl hb24 rfl) fun a hf => ?_
        refine c_nil ⟨rfl, ?_⟩
        obtain rfl := Option.some.inj hF
        exact ⟨_, hw, hf.sub ⟨rfl, rfl, rfl, rfl, rfl, rfl, rfl, rfl, rfl, rfl, rfl, trivial⟩, o1, o4, o5, o7, o8, o10, o11⟩
    · rintro a w ⟨ρ, hw, hf, o1, o4, o5, o7, o8, o10, o11⟩
      replace hf : Fr 116 a [(1, .int .i64 a1), (2, .int .i64 a2), (3, .int .i64 a3), (4, .int .i64 a4), (5, .pointer (some ((⟨g1, 0, none⟩ : Addr).add 0))), (12, .pointer (some ((⟨g5, 0, none⟩ : Addr).add 0))), (13, .int .i64 x8.2), (14, .pointer (some ((⟨g8, 0, none⟩ : Addr).add 0))), (15, .pointer (some ((⟨g11, 0, none⟩ : Addr).add 0))), (16, .int .i64 x16.2), (56, .bool s21)] := hf
      replace o1 : Va ρ w 1 g1 24 ([.int .i64 a0.p, .int .i64 a0.n, .int .i64 a0.m, .int .i64 a0.k, va0]) := o1
      replace o4 : Ow (kf cProd) 78 ρ w w0.heap.size 4 u10 x8.1.ps := o4
      replace o5 : Va ρ w 5 g5 28 ([.int .i64 x8.1.p, .int .i64 x8.1.n, .int .i64 x8.1.m, .int .i64 x8.1.k, u10]) := o5
      replace o7 : Ow (kf cProd) 78 ρ w w0.heap.size 7 u14 x12.ps := o7
      replace o8 : Va ρ w 8 g8 28 ([.int .i64 x12.p, .int .i64 x12.n, .int .i64 x12.m, .int .i64 x12.k, u14]) := o8
      replace o10 : Ow (kf cProd) 78 ρ w w0.heap.size 10 u18 x16.1.ps := o10
      replace o11 : Va ρ w 11 g11 28 ([.int .i64 x16.1.p, .int .i64 x16.1.n, .int .i64 x16.1.m, .int .i64 x16.1.k, u18]) := o11
      have hF := hG20
      refine n_then ?_
      rcases of_ite hF with ⟨hb25, hF⟩ | ⟨hb25, hF⟩
      · refine c_ift hf rfl hb25 ?_
        refine c_seq ?_
        refine c_region ?_
        refine st hf rfl rfl (by decide) (r_assign hf rfl) fun a hf => ?_
        refine c_nt ?_
        refine c_retc ?_
        obtain rfl := Option.some.inj hF
        refine r_then ?_
        refine c_ret hf (res_tmp Try.results7 hf rfl) ?_
        exact ⟨_, rfl, hw.below, rfl⟩
      · refine c_iff hf rfl hb25 ?_
        refine c_skip ?_
        refine n_then ?_
        refine c_seq ?_
        refine c_seq ?_
        obtain ⟨x26, hx27, hF⟩ := of_bind hF
        replace hf : Fr 116 a [(1, .int .i64 a1), (2, .int .i64 a2), (3, .int .i64 a3), (4, .int .i64 a4), (5, .pointer (some ((⟨g1, 0, none⟩ : Addr).add 0))), (12, .pointer (some ((⟨g5, 0, none⟩ : Addr).add 0))), (13, .int .i64 x8.2), (14, .pointer (some ((⟨g8, 0, none⟩ : Addr).add 0))), (15, .pointer (some ((⟨g11, 0, none⟩ : Addr).add 0))), (16, .int .i64 x16.2)] := hf.sub ⟨rfl, rfl, rfl, rfl, rfl, rfl, rfl, rfl, rfl, rfl, trivial⟩
        refine c_drawL (h := 3) mixed (by kernel_rfl) (by kernel_rfl) (fun ρ w => Va ρ w 1 g1 24 ([.int .i64 a0.p, .int .i64 a0.n, .int .i64 a0.m, .int .i64 a0.k, va0]) ∧ Ow (kf cProd) 78 ρ w w0.heap.size 4 u10 x8.1.ps ∧ Va ρ w 5 g5 28 ([.int .i64 x8.1.p, .int .i64 x8.1.n, .int .i64 x8.1.m, .int .i64 x8.1.k, u10]) ∧ Ow (kf cProd) 78 ρ w w0.heap.size 7 u14 x12.ps ∧ Va ρ w 8 g8 28 ([.int .i64 x12.p, .int .i64 x12.n, .int .i64 x12.m, .int .i64 x12.k, u14]) ∧ Ow (kf cProd) 78 ρ w w0.heap.size 10 u18 x16.1.ps ∧ Va ρ w 11 g11 28 ([.int .i64 x16.1.p, .int .i64 x16.1.n, .int .i64 x16.1.m, .int .i64 x16.1.k, u18])) ?_ [fun ρ w v => .agg ([.int .i64 x12.p, .int .i64 x12.n, .int .i64 x12.m, .int .i64 x12.k, u14]).toArray = v, fun ρ w v => .agg ([.int .i64 a0.p, .int .i64 a0.n, .int .i64 a0.m, .int .i64 a0.k, va0]).toArray = v, fun ρ w v => ∃ u28, .agg ([.int .i64 x26.p, .int .i64 x26.n, .int .i64 x26.m, .int .i64 x26.k, u28]).toArray = v ∧ Ow (kf cProd) 78 ρ w w0.heap.size 14 u28 x26.ps] ?_ hw ⟨o1, o4, o5, o7, o8, o10, o11⟩ hf ?_ ?_
        · intro ρ w ρ' w' hE hG
          obtain ⟨o1, o4, o5, o7, o8, o10, o11⟩ := hG
          exact ⟨o1.ext hE, o4.ext hE, o5.ext hE, o7.ext hE, o8.ext hE, o10.ext hE, o11.ext hE⟩
        · exact LastsL.cons (fun _ _ _ _ _ _ h => h) <| LastsL.cons (fun _ _ _ _ _ _ h => h) <| LastsL.cons (fun _ _ _ _ _ hE h => by obtain ⟨u28, h, o14⟩ := h; exact ⟨_, h, o14.ext hE⟩) <| LastsL.nil
        · refine StepsB.cons ?_ <| StepsB.cons ?_ <| StepsB.cons ?_ <| StepsB.nil
          · intro ρ w a hw hG hf hd K hK
            obtain ⟨o1, o4, o5, o7, o8, o10, o11⟩ := hG
            exact d_val (R := fun ρ w v => .agg ([.int .i64 x12.p, .int .i64 x12.n, .int .i64 x12.m, .int .i64 x12.k, u14]).toArray = v) hw (wn rfl) (r_load_agg ty28 hf rfl o8.cl rfl) rfl rfl hK
          · intro ρ w a hw hG hf hd K hK
            obtain ⟨o1, o4, o5, o7, o8, o10, o11⟩ := hG
            exact d_val (R := fun ρ w v => .agg ([.int .i64 a0.p, .int .i64 a0.n, .int .i64 a0.m, .int .i64 a0.k, va0]).toArray = v) hw (wn rfl) (r_load_agg ty24 hf rfl o1.cl rfl) rfl rfl hK
          · intro ρ w a hw hG hf hd K hK
            obtain ⟨o1, o4, o5, o7, o8, o10, o11⟩ := hG
            obtain ⟨_, ht, rfl⟩ := hd 1 (by kernel_rfl)
            replace hf := hf.more ht
            refine d_call (R := fun ρ w v => ∃ u28, .agg ([.int .i64 x26.p, .int .i64 x26.n, .int .i64 x26.m, .int .i64 x26.k, u28]).toArray = v ∧ Ow (kf cProd) 78 ρ w w0.heap.size 14 u28 x26.ps) hw (wn rfl) (r_fn en15 hf rfl) (laws_toScheme_ok (a0 := a0) (h0.now hw) hx27) rfl (fun v w' hΦ => ?_) hK
            obtain ⟨hb, hΦ⟩ := hΦ
            obtain ⟨u28, rfl, hr29⟩ := hΦ
            have hE := Ext.new (ρ := ρ) 14 hb
            have o14 := Fresh.own (ρ := ρ) (B := w0.heap.size) hr29 hw.below.size 14
            exact ⟨_, hw.new 14 hb, hE, _, rfl, o14⟩
        · intro ρ w a hw hG hf hd
          obtain ⟨o1, o4, o5, o7, o8, o10, o11⟩ := hG
          replace hf : Fr 116 a [(1, .int .i64 a1), (2, .int .i64 a2), (3, .int .i64 a3), (4, .int .i64 a4), (5, .pointer (some ((⟨g1, 0, none⟩ : Addr).add 0))), (12, .pointer (some ((⟨g5, 0, none⟩ : Addr).add 0))), (13, .int .i64 x8.2), (14, .pointer (some ((⟨g8, 0, none⟩ : Addr).add 0))), (15, .pointer (some ((⟨g11, 0, none⟩ : Addr).add 0))), (16, .int .i64 x16.2)] := hf
          obtain ⟨_, ht, rfl⟩ := hd 0 (by decide)
          replace hf := hf.more ht
          obtain ⟨_, ht, ⟨u28, rfl, o14⟩⟩ := hd 2 (by decide)
          replace hf := hf.more ht
          obtain ⟨x30, hx31, hF⟩ := of_bind hF
          refine st_fn 15 hw hf rfl rfl (by decide) (r_fn en17 hf rfl) (laws_eqScheme_ok (a0 := x12) (a1 := x26) o7.ro o14.ro hx31) fun a v w ρ hf hw hE hN hΦ => ?_
          obtain rfl := hΦ
          replace o1 := o1.ext hE
          replace o4 := o4.ext hE
          replace o5 := o5.ext hE
          replace o7 := o7.ext hE
          replace o8 := o8.ext hE
          replace o10 := o10.ext hE
          replace o11 := o11.ext hE
          replace o14 := o14.ext hE
          refine st hf rfl rfl (by decide) (r_not hf rfl) fun a hf => ?_
          refine c_nt ?_
          rcases of_ite hF with ⟨hb32, hF⟩ | ⟨hb32, hF⟩
          · refine c_ift hf rfl hb32 ?_
            refine c_seq ?_
            refine c_region ?_
            refine st hf rfl rfl (by decide) (r_assign hf rfl) fun a hf => ?_
            refine c_nt ?_
            refine c_retc ?_
            obtain rfl := Option.some.inj hF
            refine r_then ?_
            refine c_ret hf (res_tmp Try.results7 hf rfl) ?_
            exact ⟨_, rfl, hw.below, rfl⟩
          · refine c_iff hf rfl hb32 ?_
            refine c_skip ?_
            refine n_then ?_
            refine c_seq ?_
            refine c_region ?_
            refine st hf rfl rfl (by decide) (r_assign hf rfl) fun a hf => ?_
            refine c_nt ?_
            refine c_seq ?_
            refine c_region ?_
            refine st hf rfl rfl (by decide) (r_load_agg ty28 hf rfl o8.cl rfl) fun a hf => ?_
            refine st hf rfl rfl (by decide) (r_move hf rfl) fun a hf => ?_
            obtain ⟨x33, hx34, hF⟩ := of_bind hF
            refine st_mfn hf rfl rfl (by decide) (r_fn en18 hf rfl) (laws_markScheme_ok (a0 := x12) (by decide) hw o7 hx34) fun a v w ρ hf hw hA hΦ => ?_
            obtain ⟨rfl, o7⟩ := hΦ
            replace o1 := o1.adv hA (by decide)
            replace o4 := o4.adv hA (by decide)
            replace o5 := o5.adv hA (by decide)
            replace o8 := o8.adv hA (by decide)
            replace o10 := o10.adv hA (by decide)
            replace o11 := o11.adv hA (by decide)
            replace o14 := o14.adv hA (by decide)
            refine st hf rfl rfl (by decide) (r_assign hf rfl) fun a hf => ?_
            refine c_nt ?_
            refine c_seq ?_
            refine c_seq ?_
            obtain ⟨s36, hT35, hG35⟩ := of_bind hF
            clear hF
            refine c_meet (fun (s : Bool) a w => ∃ ρ, Wd w0 ρ w ∧ Fr 116 a [(1, .int .i64 a1), (2, .int .i64 a2), (3, .int .i64 a3), (4, .int .i64 a4), (5, .pointer (some ((⟨g1, 0, none⟩ : Addr).add 0))), (12, .pointer (some ((⟨g5, 0, none⟩ : Addr).add 0))), (13, .int .i64 x8.2), (15, .pointer (some ((⟨g11, 0, none⟩ : Addr).add 0))), (77, .bool s)] ∧ Va ρ w 1 g1 24 ([.int .i64 a0.p, .int .i64 a0.n, .int .i64 a0.m, .int .i64 a0.k, va0]) ∧ Ow (kf cProd) 78 ρ w w0.heap.size 4 u10 x8.1.ps ∧ Va ρ w 5 g5 28 ([.int .i64 x8.1.p, .int .i64 x8.1.n, .int .i64 x8.1.m, .int .i64 x8.1.k, u10]) ∧ Ow (kf cProd) 78 ρ w w0.heap.size 10 u18 x16.1.ps ∧ Va ρ w 11 g11 28 ([.int .i64 x16.1.p, .int .i64 x16.1.n, .int .i64 x16.1.m, .int .i64 x16.1.k, u18])) s36 ?_ ?_
            · have hF := hT35
              refine c_region ?_
              refine st hf rfl rfl (by decide) (r_move hf rfl) fun a hf => ?_
              refine st hf rfl rfl (by decide) (r_lss hf rfl rfl) fun a hf => ?_
              refine st hf rfl rfl (by decide) (r_move hf rfl) fun a hf => ?_
              rcases of_ite hF with ⟨hb37, hF⟩ | ⟨hb37, hF⟩
              · refine st_no (b := true) hf rfl rfl rfl hb37 rfl (by decide) fun a hf => ?_
                refine st_no (b := true) hf rfl rfl rfl hb37 rfl (by decide) fun a hf => ?_
                refine st_no (b := true) hf rfl rfl rfl hb37 rfl (by decide) fun a hf => ?_
                refine st_no (b := true) hf rfl rfl rfl hb37 rfl (by decide) fun a hf => ?_
                refine st hf rfl rfl (by decide) (r_pick (b := true) hf rfl hb37 rfl) fun a hf => ?_
                refine st hf rfl rfl (by decide) (r_move hf rfl) fun a hf => ?_
                refine st_no (b := true) hf rfl rfl rfl rfl rfl (by decide) fun a hf => ?_
                refine st_no (b := true) hf rfl rfl rfl rfl rfl (by decide) fun a hf => ?_
                refine st_no (b := true) hf rfl rfl rfl rfl rfl (by decide) fun a hf => ?_
                refine st hf rfl rfl (by decide) (r_pick (b := true) hf rfl rfl rfl) fun a hf => ?_
                refine c_nil ⟨rfl, ?_⟩
                obtain rfl := Option.some.inj hF
                exact ⟨_, hw, hf.sub ⟨rfl, rfl, rfl, rfl, rfl, rfl, rfl, rfl, rfl, trivial⟩, o1, o4, o5, o10, o11⟩
              · refine st_g (b := false) hf rfl rfl rfl hb37 rfl (by decide) (r_load_agg ty28 hf rfl o11.cl rfl) fun a hf => ?_
                refine st_g (b := false) hf rfl rfl rfl hb37 rfl (by decide) (r_load_agg ty28 hf rfl o5.cl rfl) fun a hf => ?_
                obtain ⟨x38, hx39, hF⟩ := of_bind hF
                refine st_gfn (b := false) 16 hw hf rfl rfl rfl hb37 rfl (by decide) (r_fn en17 hf rfl) (laws_eqScheme_ok (a0 := x16.1) (a1 := x8.1) o10.ro o4.ro hx39) fun a v w ρ hf hw hE hN hΦ => ?_
                obtain rfl := hΦ
                replace o1 := o1.ext hE
                replace o4 := o4.ext hE
                replace o5 := o5.ext hE
                replace o7 := o7.ext hE
                replace o8 := o8.ext hE
                replace o10 := o10.ext hE
                replace o11 := o11.ext hE
                replace o14 := o14.ext hE
                refine st_g (b := false) hf rfl rfl rfl hb37 rfl (by decide) (r_not hf rfl) fun a hf => ?_
                refine st hf rfl rfl (by decide) (r_pick (b := false) hf rfl hb37 rfl) fun a hf => ?_
                refine st hf rfl rfl (by decide) (r_move hf rfl) fun a hf => ?_
                rcases of_ite hF with ⟨hb40, hF⟩ | ⟨hb40, hF⟩
                · refine st_no (b := true) hf rfl rfl rfl hb40 rfl (by decide) fun a hf => ?_
                  refine st_no (b := true) hf rfl rfl rfl hb40 rfl (by decide) fun a hf => ?_
                  refine st_no (b := true) hf rfl rfl rfl hb40 rfl (by decide) fun a hf => ?_
                  refine st hf rfl rfl (by decide) (r_pick (b := true) hf rfl hb40 rfl) fun a hf => ?_
                  refine c_nil ⟨rfl, ?_⟩
                  obtain rfl := Option.some.inj hF
                  exact ⟨_, hw, hf.sub ⟨rfl, rfl, rfl, rfl, rfl, rfl, rfl, rfl, rfl, trivial⟩, o1, o4, o5, o10, o11⟩
                · refine st_g (b := false) hf rfl rfl rfl hb40 rfl (by decide) (r_move hf rfl) fun a hf => ?_
                  refine st_g (b := false) hf rfl rfl rfl hb40 rfl (by decide) (r_move hf rfl) fun a hf => ?_
                  refine st_g (b := false) hf rfl rfl rfl hb40 rfl (by decide) (r_neq hf rfl rfl) fun a hf => ?_
                  refine st hf rfl rfl (by decide) (r_pick (b := false) hf rfl hb40 rfl) fun a hf => ?_
                  refine c_nil ⟨rfl, ?_⟩
                  obtain rfl := Option.some.inj hF
                  exact ⟨_, hw, hf.sub ⟨rfl, rfl, rfl, rfl, rfl, rfl, rfl, rfl, rfl, trivial⟩, o1, o4, o5, o10, o11⟩
            · rintro a w ⟨ρ, hw, hf, o1, o4, o5, o10, o11⟩
              replace hf : Fr 116 a [(1, .int .i64 a1), (2, .int .i64 a2), (3, .int .i64 a3), (4, .int .i64 a4), (5, .pointer (some ((⟨g1, 0, none⟩ : Addr).add 0))), (12, .pointer (some ((⟨g5, 0, none⟩ : Addr).add 0))), (13, .int .i64 x8.2), (15, .pointer (some ((⟨g11, 0, none⟩ : Addr).add 0))), (77, .bool s36)] := hf
              replace o1 : Va ρ w 1 g1 24 ([.int .i64 a0.p, .int .i64 a0.n, .int .i64 a0.m, .int .i64 a0.k, va0]) := o1
              replace o4 : Ow (kf cProd) 78 ρ w w0.heap.size 4 u10 x8.1.ps := o4
              replace o5 : Va ρ w 5 g5 28 ([.int .i64 x8.1.p, .int .i64 x8.1.n, .int .i64 x8.1.m, .int .i64 x8.1.k, u10]) := o5
              replace o10 : Ow (kf cProd) 78 ρ w w0.heap.size 10 u18 x16.1.ps := o10
              replace o11 : Va ρ w 11 g11 28 ([.int .i64 x16.1.p, .int .i64 x16.1.n, .int .i64 x16.1.m, .int .i64 x16.1.k, u18]) := o11
              have hF := hG35
              refine n_then ?_
              rcases of_ite hF with ⟨hb41, hF⟩ | ⟨hb41, hF⟩
              · refine c_ift hf rfl hb41 ?_
                refine c_seq ?_
                refine c_region ?_
                refine st hf rfl rfl (by decide) (r_assign hf rfl) fun a hf => ?_
                refine c_nt ?_
                refine c_retc ?_
                obtain rfl := Option.some.inj hF
                refine r_then ?_
                refine c_ret hf (res_tmp Try.results7 hf rfl) ?_
                exact ⟨_, rfl, hw.below, rfl⟩
              · refine c_iff hf rfl hb41 ?_
                refine c_skip ?_
                refine n_then ?_
                refine c_seq ?_
                refine c_region ?_
                refine st hf rfl rfl (by decide) (r_assign hf rfl) fun a hf => ?_
                refine c_nt ?_
                refine c_seq ?_
                refine c_region ?_
                refine st hf rfl rfl (by decide) (r_load_agg ty28 hf rfl o11.cl rfl) fun a hf => ?_
                refine st hf rfl rfl (by decide) (r_move hf rfl) fun a hf => ?_
                obtain ⟨x42, hx43, hF⟩ := of_bind hF
                refine st_mfn hf rfl rfl (by decide) (r_fn en18 hf rfl) (laws_markScheme_ok (a0 := x16.1) (by decide) hw o10 hx43) fun a v w ρ hf hw hA hΦ => ?_
                obtain ⟨rfl, o10⟩ := hΦ
                replace o1 := o1.adv hA (by decide)
                replace o4 := o4.adv hA (by decide)
                replace o5 := o5.adv hA (by decide)
                replace o11 := o11.adv hA (by decide)
                refine st hf rfl rfl (by decide) (r_assign hf rfl) fun a hf => ?_
                refine c_nt ?_
                refine c_seq ?_
                refine c_region ?_
                refine st hf rfl rfl (by decide) (r_assign hf rfl) fun a hf => ?_
                refine c_nt ?_
                refine c_seq ?_
                refine c_region ?_
                refine st hf rfl rfl (by decide) (r_load_agg ty28 hf rfl o11.cl rfl) fun a hf => ?_
                refine st hf rfl rfl (by decide) (r_move hf rfl) fun a hf => ?_
                obtain ⟨x44, hx45, hF⟩ := of_bind hF
                refine st_fn 17 hw hf rfl rfl (by decide) (r_fn en19 hf rfl) (laws_heldScheme_ok (a0 := (⟨x16.1.p, x16.1.n, x16.1.m, x16.1.k, x42.2⟩ : Sch)) o10.ro hx45) fun a v w ρ hf hw hE hN hΦ => ?_
                obtain rfl := hΦ
                replace o1 := o1.ext hE
                replace o4 := o4.ext hE
                replace o5 := o5.ext hE
                replace o10 := o10.ext hE
                replace o11 := o11.ext hE
                refine st hf rfl rfl (by decide) (r_assign hf rfl) fun a hf => ?_
                refine c_nt ?_
                refine c_seq ?_
                refine c_seq ?_
                refine c_region ?_
                refine st hf rfl rfl (by decide) (r_move hf rfl) fun a hf => ?_
                refine st hf rfl rfl (by decide) (r_lss hf rfl rfl) fun a hf => ?_
                refine c_nt ?_
                rcases of_ite hF with ⟨hb46, hF⟩ | ⟨hb46, hF⟩
                · refine c_ift hf rfl hb46 ?_
                  refine c_seq ?_
                  refine c_region ?_
                  refine st hf rfl rfl (by decide) (r_assign hf rfl) fun a hf => ?_
                  refine c_nt ?_
                  refine c_retc ?_
                  obtain rfl := Option.some.inj hF
                  refine r_then ?_
                  refine c_ret hf (res_tmp Try.results7 hf rfl) ?_
                  exact ⟨_, rfl, hw.below, rfl⟩
                · refine c_iff hf rfl hb46 ?_
                  refine c_skip ?_
                  refine n_then ?_
                  refine c_seq ?_
                  refine c_seq ?_
                  refine c_region ?_
                  refine st hf rfl rfl (by decide) (r_move hf rfl) fun a hf => ?_
                  refine st hf rfl rfl (by decide) (r_move hf rfl) fun a hf => ?_
                  refine st hf rfl rfl (by decide) (r_neq hf rfl rfl) fun a hf => ?_
                  refine c_nt ?_
                  rcases of_ite hF with ⟨hb47, hF⟩ | ⟨hb47, hF⟩
                  · refine c_ift hf rfl hb47 ?_
                    refine c_seq ?_
                    refine c_region ?_
                    refine st hf rfl rfl (by decide) (r_assign hf rfl) fun a hf => ?_
                    refine c_nt ?_
                    refine c_retc ?_
                    obtain rfl := Option.some.inj hF
                    refine r_then ?_
                    refine c_ret hf (res_tmp Try.results7 hf rfl) ?_
                    exact ⟨_, rfl, hw.below, rfl⟩
                  · refine c_iff hf rfl hb47 ?_
                    refine c_skip ?_
                    refine n_then ?_
                    refine c_seq ?_
                    refine c_region ?_
                    refine st hf rfl rfl (by decide) (r_load_agg ty24 hf rfl o1.cl rfl) fun a hf => ?_
                    obtain ⟨x48, hx49, hF⟩ := of_bind hF
                    refine st_fn 18 hw hf rfl rfl (by decide) (r_fn en15 hf rfl) (laws_toScheme_ok (a0 := a0) (h0.now hw) hx49) fun a v w ρ hf hw hE hN hΦ => ?_
                    obtain ⟨u50, rfl, hr51⟩ := hΦ
                    replace o1 := o1.ext hE
                    replace o4 := o4.ext hE
                    replace o5 := o5.ext hE
                    replace o10 := o10.ext hE
                    replace o11 := o11.ext hE
                    have o18 := hN hr51
                    refine st hf rfl rfl (by decide) (r_move hf rfl) fun a hf => ?_
                    refine st hf rfl rfl (by decide) (r_move hf rfl) fun a hf => ?_
                    refine st hf rfl rfl (by decide) (r_move hf rfl) fun a hf => ?_
                    refine st hf rfl rfl (by decide) (r_move hf rfl) fun a hf => ?_
                    obtain ⟨x52, hx53, hF⟩ := of_bind hF
                    refine st_fn 19 hw hf rfl rfl (by decide) (r_fn en28 hf rfl) (impl_FlipProducts_ok (a0 := x48) o18.ro hx53) fun a v w ρ hf hw hE hN hΦ => ?_
                    obtain ⟨u54, rfl, hr55⟩ := hΦ
                    replace o1 := o1.ext hE
                    replace o4 := o4.ext hE
                    replace o5 := o5.ext hE
                    replace o10 := o10.ext hE
                    replace o11 := o11.ext hE
                    replace o18 := o18.ext hE
                    have o19 := hN hr55
                    refine st hf rfl rfl (by decide) (r_move hf rfl) fun a hf => ?_
                    refine st hf rfl rfl (by decide) (r_extract hf rfl rfl) fun a hf => ?_
                    refine st hf rfl rfl (by decide) (r_extract hf rfl rfl) fun a hf => ?_
                    have o21 : Ow (kf cProd) 78 ρ w w0.heap.size 21 (.slice none 0 0) [] := Ow.nil _ _ _ _ _ _
                    refine st_ex hf rfl rfl (by decide) (r_alloc (cs := [.int .i64 0, .int .i64 0, .int .i64 0, .int .i64 0, (.slice none 0 0)]) 20 ze28 rfl hw) fun a v w hf hΦ => ?_
                    obtain ⟨g20, ρ, rfl, hw, hE, o20⟩ := hΦ
                    replace o1 := o1.ext hE
                    replace o4 := o4.ext hE
                    replace o5 := o5.ext hE
                    replace o10 := o10.ext hE
                    replace o11 := o11.ext hE
                    replace o18 := o18.ext hE
                    replace o19 := o19.ext hE
                    replace o21 := o21.ext hE
                    refine st_skip hf rfl rfl (r_store_w (cs' := [.int .i64 x52.1.p, .int .i64 x52.1.n, .int .i64 x52.1.m, .int .i64 x52.1.k, u54]) hw o20 (by decide) ty28 rfl rfl (one_sch o19.ro.one) hf rfl rfl rfl) fun a w hf hΦ => ?_
                    obtain ⟨hw, hA, o20⟩ := hΦ
                    replace o1 := o1.adv hA (by decide)
                    replace o4 := o4.adv hA (by decide)
                    replace o5 := o5.adv hA (by decide)
                    replace o10 := o10.adv hA (by decide)
                    replace o11 := o11.adv hA (by decide)
                    replace o18 := o18.adv hA (by decide)
                    replace o19 := o19.adv hA (by decide)
                    replace o21 := o21.adv hA (by decide)
                    refine st hf rfl rfl (by decide) (r_assign hf rfl) fun a hf => ?_
                    refine c_nt ?_
                    refine c_seq ?_
                    refine c_seq ?_
                    obtain ⟨s57, hT56, hG56⟩ := of_bind hF
                    clear hF
                    refine c_meet (fun (s : Bool) a w => ∃ ρ, Wd w0 ρ w ∧ Fr 116 a [(15, .pointer (some ((⟨g11, 0, none⟩ : Addr).add 0))), (18, .int .i64 x42.1), (107, .bool s)] ∧ Ow (kf cProd) 78 ρ w w0.heap.size 10 u18 x42.2 ∧ Va ρ w 11 g11 28 ([.int .i64 x16.1.p, .int .i64 x16.1.n, .int .i64 x16.1.m, .int .i64 x16.1.k, u18])) s57 ?_ ?_
                    · have hF := hT56
                      refine c_region ?_
                      refine st hf rfl rfl (by decide) (r_load_agg ty28 hf rfl o20.cl rfl) fun a hf => ?_
                      refine st hf rfl rfl (by decide) (r_load_agg ty28 hf rfl o5.cl rfl) fun a hf => ?_
                      obtain ⟨x58, hx59, hF⟩ := of_bind hF
                      refine st_fn 22 hw hf rfl rfl (by decide) (r_fn en17 hf rfl) (laws_eqScheme_ok (a0 := x52.1) (a1 := x8.1) o19.ro o4.ro hx59) fun a v w ρ hf hw hE hN hΦ => ?_
                      obtain rfl := hΦ
                      replace o1 := o1.ext hE
                      replace o4 := o4.ext hE
                      replace o5 := o5.ext hE
                      replace o10 := o10.ext hE
                      replace o11 := o11.ext hE
                      replace o18 := o18.ext hE
                      replace o19 := o19.ext hE
                      replace o21 := o21.ext hE
                      replace o20 := o20.ext hE
                      refine st hf rfl rfl (by decide) (r_not hf rfl) fun a hf => ?_
                      refine st hf rfl rfl (by decide) (r_move hf rfl) fun a hf => ?_
                      rcases of_ite hF with ⟨hb60, hF⟩ | ⟨hb60, hF⟩
                      · refine st_no (b := true) hf rfl rfl rfl hb60 rfl (by decide) fun a hf => ?_
                        refine st_no (b := true) hf rfl rfl rfl hb60 rfl (by decide) fun a hf => ?_
                        refine st_no (b := true) hf rfl rfl rfl hb60 rfl (by decide) fun a hf => ?_
                        refine st hf rfl rfl (by decide) (r_pick (b := true) hf rfl hb60 rfl) fun a hf => ?_
                        refine c_nil ⟨rfl, ?_⟩
                        obtain rfl := Option.some.inj hF
                        exact ⟨_, hw, hf.sub ⟨rfl, rfl, rfl, trivial⟩, o10, o11⟩
                      · refine st_g (b := false) hf rfl rfl rfl hb60 rfl (by decide) (r_move hf rfl) fun a hf => ?_
                        refine st_g (b := false) hf rfl rfl rfl hb60 rfl (by decide) (r_move hf rfl) fun a hf => ?_
                        refine st_g (b := false) hf rfl rfl rfl hb60 rfl (by decide) (r_neq hf rfl rfl) fun a hf => ?_
                        refine st hf rfl rfl (by decide) (r_pick (b := false) hf rfl hb60 rfl) fun a hf => ?_
                        refine c_nil ⟨rfl, ?_⟩
                        obtain rfl := Option.some.inj hF
                        exact ⟨_, hw, hf.sub ⟨rfl, rfl, rfl, trivial⟩, o10, o11⟩
                    · rintro a w ⟨ρ, hw, hf, o10, o11⟩
                      replace hf : Fr 116 a [(15, .pointer (some ((⟨g11, 0, none⟩ : Addr).add 0))), (18, .int .i64 x42.1), (107, .bool s57)] := hf
                      replace o10 : Ow (kf cProd) 78 ρ w w0.heap.size 10 u18 x42.2 := o10
                      replace o11 : Va ρ w 11 g11 28 ([.int .i64 x16.1.p, .int .i64 x16.1.n, .int .i64 x16.1.m, .int .i64 x16.1.k, u18]) := o11
                      have hF := hG56
                      refine n_then ?_
                      rcases of_ite hF with ⟨hb61, hF⟩ | ⟨hb61, hF⟩
                      · refine c_ift hf rfl hb61 ?_
                        refine c_seq ?_
                        refine c_region ?_
                        refine st hf rfl rfl (by decide) (r_assign hf rfl) fun a hf => ?_
                        refine c_nt ?_
                        refine c_retc ?_
                        obtain rfl := Option.some.inj hF
                        refine r_then ?_
                        refine c_ret hf (res_tmp Try.results7 hf rfl) ?_
                        exact ⟨_, rfl, hw.below, rfl⟩
                      · refine c_iff hf rfl hb61 ?_
                        refine c_skip ?_
                        refine n_then ?_
                        refine c_seq ?_
                        refine c_region ?_
                        refine st hf rfl rfl (by decide) (r_assign hf rfl) fun a hf => ?_
                        refine c_nt ?_
                        refine c_seq ?_
                        refine c_region ?_
                        refine st hf rfl rfl (by decide) (r_load_agg ty28 hf rfl o11.cl rfl) fun a hf => ?_
                        refine st hf rfl rfl (by decide) (r_move hf rfl) fun a hf => ?_
                        obtain ⟨x62, hx63, hF⟩ := of_bind hF
                        refine st_fn 23 hw hf rfl rfl (by decide) (r_fn en19 hf rfl) (laws_heldScheme_ok (a0 := (⟨x16.1.p, x16.1.n, x16.1.m, x16.1.k, x42.2⟩ : Sch)) o10.ro hx63) fun a v w ρ hf hw hE hN hΦ => ?_
                        obtain rfl := hΦ
                        replace o10 := o10.ext hE
                        replace o11 := o11.ext hE
                        refine st hf rfl rfl (by decide) (r_assign hf rfl) fun a hf => ?_
                        refine c_nt ?_
                        refine c_seq ?_
                        refine c_seq ?_
                        refine c_region ?_
                        refine st hf rfl rfl (by decide) (r_move hf rfl) fun a hf => ?_
                        refine st hf rfl rfl (by decide) (r_lss hf rfl rfl) fun a hf => ?_
                        refine c_nt ?_
                        rcases of_ite hF with ⟨hb64, hF⟩ | ⟨hb64, hF⟩
                        · refine c_ift hf rfl hb64 ?_
                          refine c_seq ?_
                          refine c_region ?_
                          refine st hf rfl rfl (by decide) (r_assign hf rfl) fun a hf => ?_
                          refine c_nt ?_
                          refine c_retc ?_
                          obtain rfl := Option.some.inj hF
                          refine r_then ?_
                          refine c_ret hf (res_tmp Try.results7 hf rfl) ?_
                          exact ⟨_, rfl, hw.below, rfl⟩
                        · refine c_iff hf rfl hb64 ?_
                          refine c_skip ?_
                          refine n_then ?_
                          refine c_seq ?_
                          refine c_seq ?_
                          refine c_region ?_
                          refine st hf rfl rfl (by decide) (r_move hf rfl) fun a hf => ?_
                          refine st hf rfl rfl (by decide) (r_move hf rfl) fun a hf => ?_
                          refine st hf rfl rfl (by decide) (r_neq hf rfl rfl) fun a hf => ?_
                          refine c_nt ?_
                          rcases of_ite hF with ⟨hb65, hF⟩ | ⟨hb65, hF⟩
                          · refine c_ift hf rfl hb65 ?_
                            refine c_seq ?_
                            refine c_region ?_
                            refine st hf rfl rfl (by decide) (r_assign hf rfl) fun a hf => ?_
                            refine c_nt ?_
                            refine c_retc ?_
                            obtain rfl := Option.some.inj hF
                            refine r_then ?_
                            refine c_ret hf (res_tmp Try.results7 hf rfl) ?_
                            exact ⟨_, rfl, hw.below, rfl⟩
                          · refine c_iff hf rfl hb65 ?_
                            refine c_skip ?_
                            refine n_then ?_
                            refine c_seq ?_
                            refine c_region ?_
                            refine st hf rfl rfl (by decide) (r_assign hf rfl) fun a hf => ?_
                            refine c_nt ?_
                            refine c_retc ?_
                            obtain rfl := Option.some.inj hF
                            refine c_ret hf (res_tmp Try.results7 hf rfl) ?_
                            exact ⟨_, rfl, hw.below, rfl⟩
end Go.Proofs.YtB
