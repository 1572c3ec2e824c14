/- Contracts and lemmas on which the theorem of YtebehdjjkpffjaaRPlansz rests; no condition of their own. -/
import Derived.Test.YtebehdjjkpffjaaRPlansf
section
namespace Go.Proofs.Ytebehdjjkpffjaa.QPlans
open Go.RowKit Go.Proofs.YtebehdjjkpffjaaW.PrintWords Go.Proofs.YtebehdjjkpffjaaW.PrintLast Go.Proofs.YtebehdjjkpffjaaW.PrintMore
attribute [local go_sem] ZT ZW Ql Qm ZI ZH ZV ZR
set_option linter.unusedVariables false
set_option linter.unusedSimpArgs false
def zA.l0 : Nat → Int → List Int → List (S66) → Int → Int → Option (List Int)
 | 0, _, _, _, _, _ => none
 | k + 1, x1, x5, x12, x13, x14 => if x14 < x13 then (if 0 ≤ x14 then (if x14 < (x12.length : Int) then (if ((zF x12 x14).f0) = x1 then (if x5.length < 17592186044416 then ((some (x5 ++ [(zF x12 x14).f1] : List Int)).bind fun y444 => (if ((zF x12 x14).f1) = x1 then (if y444.length < 17592186044416 then (zA.l0 k x1 (y444 ++ [(zF x12 x14).f0]) x12 x13 (wrap64 (x14 + 1))) else (none)) else (zA.l0 k x1 y444 x12 x13 (wrap64 (x14 + 1))))) else (none)) else (if ((zF x12 x14).f1) = x1 then (if x5.length < 17592186044416 then (zA.l0 k x1 (x5 ++ [(zF x12 x14).f0]) x12 x13 (wrap64 (x14 + 1))) else (none)) else (zA.l0 k x1 x5 x12 x13 (wrap64 (x14 + 1))))) else (none)) else (none)) else ((zS.f k x5).bind fun t439 => (some t439))
def zA.f (k : Nat) (a0_0 : Int) (l0_1 : List (S66)) (a1 : Int) : Option (List Int) := (zx.f k a0_0 l0_1).bind fun t438 => (if t438 = 0 then (zA.l0 k a1 ([] : List Int) l0_1 (l0_1.length : Int) 0) else (some ([] : List Int)))
theorem zA.qV : ∀ k, (∀ y0 y1 y2 y3 y4, LeO (zA.l0 k y0 y1 y2 y3 y4) (zA.l0 (k + 1) y0 y1 y2 y3 y4))
 | 0 => fun _ _ _ _ _ r h => by simp [zA.l0] at h
 | k + 1 => by
  have ih0 := zA.qV k
  ·intro y0 y1 y2 y3 y4
   unfold zA.l0
   repeat' first
   | (with_reducible exact ih0 _ _ _ _ _)
   | (with_reducible exact zS.mono _ _)
   | (with_reducible exact zx.mono _ _ _)
   | (with_reducible exact LeO.refl _)
   | (with_reducible exact LeO.none _)
   | (with_reducible refine LeO.ite ?_ ?_)
   | (with_reducible refine LeO.bind ?_ (fun _ => ?_))
   | exact ih0 _ _ _ _ _
   | exact zS.mono _ _
   | exact zx.mono _ _ _
   | exact LeO.none _
   | refine LeO.ite ?_ ?_
   | refine LeO.bind ?_ (fun _ => ?_)
theorem zA.mono : ∀ a0 a1 a2 k, LeO (zA.f k a0 a1 a2) (zA.f (k + 1) a0 a1 a2) := by
 intro a0 a1 a2 k
 have ih0 := zA.qV k
 unfold zA.f
 repeat' first
  | (with_reducible exact ih0 _ _ _ _ _)
  | (with_reducible exact zS.mono _ _)
  | (with_reducible exact zx.mono _ _ _)
  | (with_reducible exact LeO.refl _)
  | (with_reducible exact LeO.none _)
  | (with_reducible refine LeO.ite ?_ ?_)
  | (with_reducible refine LeO.bind ?_ (fun _ => ?_))
  | exact ih0 _ _ _ _ _
  | exact zS.mono _ _
  | exact zx.mono _ _ _
  | exact LeO.none _
  | refine LeO.ite ?_ ?_
  | refine LeO.bind ?_ (fun _ => ?_)
set_option maxHeartbeats 8000000 in
set_option maxRecDepth 100000 in
theorem zA.calls (k : Nat) (a0_0 : Int) (A0_1 : Option Addr) (c0_1 : Nat) (l0_1 : List (S66)) (a1 : Int) (r : List Int) (w : World) (hr0_1 : Kd.C k66 w A0_1 l0_1.length l0_1) (hc0_1 : l0_1.length ≤ c0_1) (h : zA.f k a0_0 l0_1 a1 = some r) :
  Calls Try.prog 14 #[.agg #[.int .i64 a0_0, .slice A0_1 l0_1.length c0_1], .int .i64 a1] w fun e w' => ∃ v0_ : Value, e = .returned (v0_) ∧ Kd.R (Kd.int .i64) 3 w' w.heap.size (fun _ => True) v0_ r ∧ Below w.heap.size w w' := by
 have hu29 := Try.underlying29
 have hu66 := Try.underlying66
 have HR0_1 := za.mk hr0_1
 have HC0_1 := za.mk hc0_1
 clear hr0_1 hc0_1
 have HB := za.mk (Below.refl w.heap.size w)
 have H : ((zx.f k a0_0 l0_1).bind fun t438 => (if t438 = 0 then (zA.l0 k a1 ([] : List Int) l0_1 (l0_1.length : Int) 0) else (some ([] : List Int)))) = some r := h
 clear h
 replace H := Option.bind_eq_some_iff.mp H
 obtain ⟨t438, A30, H⟩ := H
 replace H : (if t438 = 0 then (zA.l0 k a1 ([] : List Int) l0_1 (l0_1.length : Int) 0) else (some ([] : List Int))) = some r := H
 have A3 := za.mk A30
 clear A30
 by_cases c4 : t438 = 0
 ·rw [if_pos c4] at H
  have c4b0 : (t438 == 0) = true := beq_iff_eq.mpr c4
  have c4b1 : (t438 != 0) = false := bne_eq_false_iff_eq.mpr c4
  clear c4
  have H' := za.mk H
  clear H
  go_enter Try.func14, Try.ntmps14
  go_wp2_with (first | ((with_reducible refine qJ (N := 2) rfl ?_); refine qI ?hg (N := 2) ?hd (cs := #[.int .i64 a0_0, .slice A0_1 l0_1.length c0_1]) (t := 29) ?hr ?_; (case hd => rfl); (case hg => rfl); (case hr => first | (go_simp; done) | (go_simp; rfl)); intro gb437 hg w5 hbox hb; have n0_ := za.mk (zT (by repeat (first | (with_reducible first | exact HB.out | apply zf | apply zb | apply zg) | exact HB.out)) hb); have n1_ := za.mk (hbox); have n2_ := za.mk ((by rw [hg]; exact (zB (by repeat (first | (with_reducible first | exact HB.out | apply zf | apply zb | apply zg) | exact HB.out))) : w.heap.size ≤ gb437)); have n3_ := za.mk ((by rw [hg]; exact (zB (by repeat (first | (with_reducible first | exact HB.out | apply zf | apply zb | apply zg) | exact HB.out))) : w.heap.size ≤ gb437)); clear HB; have HB := n0_; have BK437 := n1_; have GW437 := n2_; have GE437 := n3_; clear n0_ n1_ n2_ n3_; clear hb hbox hg; have hcz6_0 : w5.cell? ⟨gb437, 0, none⟩ = some (.int .i64 a0_0) := (ze BK437.out 0).trans rfl; have hcz6_1 : w5.cell? ⟨gb437, 1, none⟩ = some (.slice A0_1 l0_1.length c0_1) := (ze BK437.out 1).trans rfl; have hfz6_0 := zl BK437.out 0; have hfz6_1 := zl BK437.out 1) | ((with_reducible refine qc (f := 39) rfl ?_); refine qU (some 9) rfl rfl Try.func39 (by kernel_rfl) rfl #[.agg #[.int .i64 a0_0, .slice A0_1 l0_1.length c0_1]] rfl (by (try simp only [List.map_toArray, List.map_cons, List.map_nil]); first | done | rfl | (simp only [List.length_drop, List.length_take]; rfl)) ?_; (with_reducible refine (zx.calls k a0_0 _ _ l0_1 t438 _ ?side1 ?side2 A3.out).mono ?_); (case side1 => repeat (first | exact (Kd.qB HR0_1.out HB.out) | (with_reducible refine Kd.qA ?_ _) | (with_reducible refine Kd.qz ?_ _) | (with_reducible refine Kd.qF ?_))); (case side2 => exact HC0_1.out); rintro e w7 ⟨rfl, hb⟩; refine ⟨_, rfl, ?_⟩; have n0_ := za.mk (zW (g := gb437) (o := .cells #[.int .i64 a0_0, .slice A0_1 l0_1.length c0_1] 29 (0, 0)) (by (with_reducible repeat (first | refine zk ?_ _ | refine zm ?_ | refine zh ?_ _)); exact BK437.out) hb); have n1_ := za.mk (zT (by repeat (first | (with_reducible first | exact HB.out | apply zf | apply zb | apply zg | refine zi ?_ GE437.out) | exact HB.out)) hb); clear BK437; clear HB; have BK437 := n0_; have HB := n1_; clear n0_ n1_; (try clear hb); (try clear hb2); (try clear hk); (try clear hi); have hcz8_0 : w7.cell? ⟨gb437, 0, none⟩ = some (.int .i64 a0_0) := (ze BK437.out 0).trans rfl; have hcz8_1 : w7.cell? ⟨gb437, 1, none⟩ = some (.slice A0_1 l0_1.length c0_1) := (ze BK437.out 1).trans rfl; have hfz8_0 := zl BK437.out 0; have hfz8_1 := zl BK437.out 1))
  go_loopg [5, 14] k (fun kq v5 v14 w' => ∃ (x5_1 : List Int) (x14_1 : Int), v14 = .int .i64 x14_1 ∧ za (zA.l0 kq a1 x5_1 l0_1 (l0_1.length : Int) x14_1 = some r) ∧ za (kq ≤ k) ∧ za (Kd.R (Kd.int .i64) 3 w' w.heap.size (fun _ => True) v5 x5_1) ∧ za (w'.heap[gb437]? = some (.cells #[.int .i64 a0_0, (.slice A0_1 l0_1.length c0_1)] 29 (0, 0))) ∧ za (Below w.heap.size w w'))
  case atStart => exact ⟨(([] : List Int)), (0), (by first | rfl | (simp; done) | (simp [*]; done)), H', ⟨Nat.le_refl _⟩, ⟨by first | exact Kd.ZO _ _ _ _ _ | exact Kd.N_nil _ _ _ _ _ | exact Kd.V_nil _ _ _ _ _ | exact Kd.Q_nil _ _ _ _ _ | exact Kd.S_nil _ _ _ _ _⟩, ⟨by (with_reducible repeat (first | refine zk ?_ _ | refine zm ?_ | refine zh ?_ _)); exact BK437.out⟩, ⟨by repeat (first | (with_reducible first | exact HB.out | apply zf | apply zb | apply zg | refine zi ?_ GE437.out) | exact HB.out)⟩⟩
  case round =>
   clear H'
   try clear c1
   try clear p2
   try clear c3
   try clear c4
   try clear c4b0
   try clear c4b1
   try clear hcz6_0
   try clear hcz6_1
   try clear hcz8_0
   try clear hcz8_1
   try clear hfz6_0
   try clear hfz6_1
   try clear hfz8_0
   try clear hfz8_1
   obtain ⟨x5_1, x14_1, rfl, HA, HK1, HO_5, BK437, HB⟩ := hrel
   cases gk with
   | zero => exact absurd HA.out (by simp [zA.l0])
   | succ k1 =>
    have H := HA.out
    clear HA
    simp only [zA.l0] at H
    by_cases c9 : x14_1 < (l0_1.length : Int)
    ·rw [if_pos c9] at H
     have c9b0 : decide (x14_1 < (l0_1.length : Int)) = true := decide_eq_true c9
     clear c9
     by_cases c10 : 0 ≤ x14_1
     ·rw [if_pos c10] at H
      have c10b0 : decide (0 ≤ x14_1) = true := decide_eq_true c10
      clear c10
      by_cases c11 : x14_1 < (l0_1.length : Int)
      ·rw [if_pos c11] at H
       have c11b0 : decide (x14_1 < (l0_1.length : Int)) = true := decide_eq_true c11
       clear c11
       by_cases c12 : ((zF l0_1 x14_1).f0) = a1
       ·rw [if_pos c12] at H
        have c12b0 : (((zF l0_1 x14_1).f0) == a1) = true := beq_iff_eq.mpr c12
        have c12b1 : (((zF l0_1 x14_1).f0) != a1) = false := bne_eq_false_iff_eq.mpr c12
        clear c12
        by_cases c13 : x5_1.length < 17592186044416
        ·rw [if_pos c13] at H
         have LMc13 := za.mk c13
         clear c13
         obtain ⟨y444, hy444⟩ : ∃ y_ : List Int, y_ = (x5_1 ++ [(zF l0_1 x14_1).f1]) := ⟨_, rfl⟩
         replace H : (if ((zF l0_1 x14_1).f1) = a1 then (if y444.length < 17592186044416 then (zA.l0 k1 a1 (y444 ++ [(zF l0_1 x14_1).f0]) l0_1 (l0_1.length : Int) (wrap64 (x14_1 + 1))) else (none)) else (zA.l0 k1 a1 y444 l0_1 (l0_1.length : Int) (wrap64 (x14_1 + 1)))) = some r := by first | (rw [hy444]; with_reducible exact H) | (have H2_ := (Option.bind_some _ _).symm.trans H; rw [hy444]; with_reducible exact H2_) | (have H2_ := (Option.bind_some _ _).symm.trans H; with_reducible exact H2_) | with_reducible exact H | (rw [hy444]; exact H) | exact H
         have Ny444 := za.mk hy444
         clear hy444
         by_cases c14 : ((zF l0_1 x14_1).f1) = a1
         ·rw [if_pos c14] at H
          have c14b0 : (((zF l0_1 x14_1).f1) == a1) = true := beq_iff_eq.mpr c14
          have c14b1 : (((zF l0_1 x14_1).f1) != a1) = false := bne_eq_false_iff_eq.mpr c14
          clear c14
          by_cases c15 : y444.length < 17592186044416
          ·rw [if_pos c15] at H
           have LMc15 := za.mk c15
           clear c15
           obtain ⟨y447, hy447⟩ : ∃ y_ : List Int, y_ = (y444 ++ [(zF l0_1 x14_1).f0]) := ⟨_, rfl⟩
           replace H : (zA.l0 k1 a1 y447 l0_1 (l0_1.length : Int) (wrap64 (x14_1 + 1))) = some r := by first | (rw [hy447]; with_reducible exact H) | (have H2_ := (Option.bind_some _ _).symm.trans H; rw [hy447]; with_reducible exact H2_) | (have H2_ := (Option.bind_some _ _).symm.trans H; with_reducible exact H2_) | with_reducible exact H | (rw [hy447]; exact H) | exact H
           have Ny447 := za.mk hy447
           clear hy447
           have H' := za.mk H
           clear H
           have p442 : 0 ≤ (x14_1 : Int) := of_decide_eq_true (by first | (with_reducible assumption) | assumption)
           have q442 : x14_1 < (l0_1.length : Int) := of_decide_eq_true (by first | (with_reducible assumption) | assumption)
           obtain ⟨ad442, e442, hx442_0, hx442_1⟩ := at_T66 HR0_1.out x14_1 p442 q442
           cases e442
           replace hx442_0 := (HB.out.cell (World.block_lt_of_cell? w _ hx442_0)).trans hx442_0
           replace hx442_1 := (HB.out.cell (World.block_lt_of_cell? w _ hx442_1)).trans hx442_1
           replace p442 := eq_true p442
           replace q442 := eq_true q442
           go_wp2_with (first | ((with_reducible refine qJ (N := 7) rfl ?_); refine qI ?hg (N := 7) ?hd (cs := #[.int .i64 0, .int .i64 0]) (t := 66) ?hr ?_; (case hd => rfl); (case hg => rfl); (case hr => first | (go_simp; done) | (go_simp; rfl)); intro gb443 hg w16 hbox hb; have n0_ := za.mk (Kd.zL (by (with_reducible repeat (first | apply Kd.zn | apply Kd.zq | apply Kd.zu)); exact HO_5.out) hb); have n1_ := za.mk (zW (g := gb437) (o := .cells #[.int .i64 a0_0, .slice (some ad442) l0_1.length c0_1] 29 (0, 0)) (by (with_reducible repeat (first | refine zk ?_ _ | refine zm ?_ | refine zh ?_ _)); exact BK437.out) hb); have n2_ := za.mk (zT (by repeat (first | (with_reducible first | exact HB.out | apply zf | apply zb | apply zg | refine zi ?_ GE437.out) | exact HB.out)) hb); have n3_ := za.mk (hbox); have n4_ := za.mk ((by rw [hg]; exact (zB (by repeat (first | (with_reducible first | exact HB.out | apply zf | apply zb | apply zg | refine zi ?_ GE437.out) | exact HB.out))) : w.heap.size ≤ gb443)); have n5_ := za.mk ((by rw [hg]; exact (zB (by repeat (first | (with_reducible first | exact HB.out | apply zf | apply zb | apply zg | refine zi ?_ GE437.out) | exact HB.out))) : w.heap.size ≤ gb443)); have n6_ := za.mk ((by rw [hg]; exact Nat.ne_of_lt (qg (g := gb437) (o := .cells #[.int .i64 a0_0, .slice (some ad442) l0_1.length c0_1] 29 (0, 0)) (by (with_reducible repeat (first | refine zk ?_ _ | refine zm ?_ | refine zh ?_ _)); exact BK437.out)) : gb437 ≠ gb443)); have n7_ := za.mk ((by rw [hg]; exact Nat.ne_of_gt (qg (g := gb437) (o := .cells #[.int .i64 a0_0, .slice (some ad442) l0_1.length c0_1] 29 (0, 0)) (by (with_reducible repeat (first | refine zk ?_ _ | refine zm ?_ | refine zh ?_ _)); exact BK437.out)) : gb443 ≠ gb437)); clear HO_5; clear BK437; clear HB; have HO_5 := n0_; have BK437 := n1_; have HB := n2_; have BK443 := n3_; have GW443 := n4_; have GE443 := n5_; have NB437_443 := n6_; have NB443_437 := n7_; clear n0_ n1_ n2_ n3_ n4_ n5_ n6_ n7_; clear hb hbox hg; have hnb17 := NB443_437.out; have hnc17 := NB437_443.out; have hcz18_0 : w16.cell? ⟨gb443, 0, none⟩ = some (.int .i64 0) := (ze BK443.out 0).trans rfl; have hcz18_1 : w16.cell? ⟨gb443, 1, none⟩ = some (.int .i64 0) := (ze BK443.out 1).trans rfl; have hfz18_0 := zl BK443.out 0; have hfz18_1 := zl BK443.out 1) | ((with_reducible refine Zb (b := .append) (xs := #[.tmp 22, .tmp 25]) rfl ?_); at_builtin; refine Kd.ZU (Kd.int .i64) (w0 := w) w.heap.size rfl (.tmp 22) (.tmp 25) 22 3 (.int .i64 0) 8 rfl Try.underlying22 info3 rfl (by decide) (by omega) u5 x5_1 ((zF l0_1 x14_1).f1) [.int .i64 ((zF l0_1 x14_1).f1)] (fun _ => True) (fun _ => False) rfl (by first | (go_simp; done) | (go_simp; rfl)) ?aP (fun _ hk => hk.elim) ?aF ?aO ?aB ?aS ?aL ?_; (case aP => exact rfl); (case aB => exact (by repeat (first | (with_reducible first | exact HB.out | apply zf | apply zb | apply zg | refine zi ?_ GE437.out | refine zi ?_ GE443.out) | exact HB.out))); (case aF => exact (fun _ _ => trivial)); (case aO => exact (by (with_reducible repeat (first | apply Kd.zn | apply Kd.zq | apply Kd.zu)); exact Kd.zR (Kd.zz (p := ⟨gb443, 1, none⟩) (Kd.zz (p := ⟨gb443, 0, none⟩) (Kd.qw HO_5.out BK443.out (by decide)) (fun _ hk => hk.2) (.int .i64 ((zF l0_1 x14_1).f0))) (fun _ hk => hk.2) (.int .i64 ((zF l0_1 x14_1).f1))) (fun _ hk => trivial))); (case aS => exact (zB (by repeat (first | (with_reducible first | exact HB.out | apply zf | apply zb | apply zg | refine zi ?_ GE437.out | refine zi ?_ GE443.out) | exact HB.out)))); (case aL => have := LMc13.out; omega); intro v445 w19 ho hb hg hat; rw [← Ny444.out] at ho; have n0_ := za.mk (Zp (g := gb437) (o := .cells #[.int .i64 a0_0, .slice (some ad442) l0_1.length c0_1] 29 (0, 0)) (by (with_reducible repeat (first | refine zk ?_ _ | refine zm ?_ | refine zh ?_ _)); refine ql ?_ NB437_443.out _; (with_reducible repeat (first | refine zk ?_ _ | refine zm ?_ | refine zh ?_ _)); refine ql ?_ NB437_443.out _; (with_reducible repeat (first | refine zk ?_ _ | refine zm ?_ | refine zh ?_ _)); exact BK437.out) hg (Kd.R_ne HO_5.out BK437.out (by decide))); have n1_ := za.mk (Zp (g := gb443) (o := .cells #[.int .i64 ((zF l0_1 x14_1).f0), .int .i64 ((zF l0_1 x14_1).f1)] 66 (0, 0)) (by (with_reducible repeat (first | refine zk ?_ _ | refine zm ?_ | refine zh ?_ _)); refine zX (cs := #[.int .i64 ((zF l0_1 x14_1).f0), .int .i64 0]) ?_ 1 _ rfl; (with_reducible repeat (first | refine zk ?_ _ | refine zm ?_ | refine zh ?_ _)); refine zX (cs := #[.int .i64 0, .int .i64 0]) ?_ 0 _ rfl; (with_reducible repeat (first | refine zk ?_ _ | refine zm ?_ | refine zh ?_ _)); exact BK443.out) hg (Kd.R_ne HO_5.out BK443.out (by decide))); have n2_ := za.mk (hb); have n3_ := za.mk (ho); clear BK437; clear BK443; clear HB; clear HO_5; have BK437 := n0_; have BK443 := n1_; have HB := n2_; have HO446 := n3_; clear n0_ n1_ n2_ n3_; clear ho hb hg hat; have hcz20_0 : w19.cell? ⟨gb443, 0, none⟩ = some (.int .i64 ((zF l0_1 x14_1).f0)) := (ze BK443.out 0).trans rfl; have hcz20_1 : w19.cell? ⟨gb443, 1, none⟩ = some (.int .i64 ((zF l0_1 x14_1).f1)) := (ze BK443.out 1).trans rfl; have hfz20_0 := zl BK443.out 0; have hfz20_1 := zl BK443.out 1) | ((with_reducible refine Zb (b := .append) (xs := #[.tmp 31, .tmp 34]) rfl ?_); at_builtin; refine Kd.ZU (Kd.int .i64) (w0 := w) w.heap.size rfl (.tmp 31) (.tmp 34) 22 3 (.int .i64 0) 8 rfl Try.underlying22 info3 rfl (by decide) (by omega) v445 y444 ((zF l0_1 x14_1).f0) [.int .i64 ((zF l0_1 x14_1).f0)] (fun _ => True) (fun _ => False) rfl rfl ?aP (fun _ hk => hk.elim) ?aF ?aO ?aB ?aS ?aL ?_; (case aP => exact rfl); (case aB => exact (by repeat (first | (with_reducible first | exact HB.out | apply zf | apply zb | apply zg | refine zi ?_ GE437.out | refine zi ?_ GE443.out) | exact HB.out))); (case aF => exact (fun _ _ => trivial)); (case aO => exact (by (with_reducible repeat (first | apply Kd.zn | apply Kd.zq | apply Kd.zu)); exact HO446.out)); (case aS => exact (zB (by repeat (first | (with_reducible first | exact HB.out | apply zf | apply zb | apply zg | refine zi ?_ GE437.out | refine zi ?_ GE443.out) | exact HB.out)))); (case aL => have := LMc15.out; omega); intro v448 w21 ho hb hg hat; rw [← Ny447.out] at ho; have n0_ := za.mk (Zp (g := gb437) (o := .cells #[.int .i64 a0_0, .slice (some ad442) l0_1.length c0_1] 29 (0, 0)) (by (with_reducible repeat (first | refine zk ?_ _ | refine zm ?_ | refine zh ?_ _)); exact BK437.out) hg (Kd.R_ne HO446.out BK437.out (by decide))); have n1_ := za.mk (Zp (g := gb443) (o := .cells #[.int .i64 ((zF l0_1 x14_1).f0), .int .i64 ((zF l0_1 x14_1).f1)] 66 (0, 0)) (by (with_reducible repeat (first | refine zk ?_ _ | refine zm ?_ | refine zh ?_ _)); exact BK443.out) hg (Kd.R_ne HO446.out BK443.out (by decide))); have n2_ := za.mk (hb); have n3_ := za.mk (ho); clear BK437; clear BK443; clear HB; clear HO446; have BK437 := n0_; have BK443 := n1_; have HB := n2_; have HO449 := n3_; clear n0_ n1_ n2_ n3_; clear ho hb hg hat))
           go_roundg k1
           case measure => have := HK1.out; omega
           case rel => exact ⟨(y447), (wrap64 (x14_1 + 1)), (by first | rfl | (simp; done) | (simp [*]; done)), H', ⟨by have := HK1.out; omega⟩, ⟨by (with_reducible repeat (first | apply Kd.zn | apply Kd.zq | apply Kd.zu)); exact HO449.out⟩, ⟨by (with_reducible repeat (first | refine zk ?_ _ | refine zm ?_ | refine zh ?_ _)); exact BK437.out⟩, ⟨by repeat (first | (with_reducible first | exact HB.out | apply zf | apply zb | apply zg | refine zi ?_ GE437.out | refine zi ?_ GE443.out) | exact HB.out)⟩⟩
          ·rw [if_neg c15] at H
           exact absurd H (by simp)
         ·rw [if_neg c14] at H
          have c14b0 : (((zF l0_1 x14_1).f1) == a1) = false := beq_eq_false_iff_ne.mpr c14
          have c14b1 : (((zF l0_1 x14_1).f1) != a1) = true := bne_iff_ne.mpr c14
          have H' := za.mk H
          clear H
          have p442 : 0 ≤ (x14_1 : Int) := of_decide_eq_true (by first | (with_reducible assumption) | assumption)
          have q442 : x14_1 < (l0_1.length : Int) := of_decide_eq_true (by first | (with_reducible assumption) | assumption)
          obtain ⟨ad442, e442, hx442_0, hx442_1⟩ := at_T66 HR0_1.out x14_1 p442 q442
          cases e442
          replace hx442_0 := (HB.out.cell (World.block_lt_of_cell? w _ hx442_0)).trans hx442_0
          replace hx442_1 := (HB.out.cell (World.block_lt_of_cell? w _ hx442_1)).trans hx442_1
          replace p442 := eq_true p442
          replace q442 := eq_true q442
          go_wp2_with (first | ((with_reducible refine qJ (N := 7) rfl ?_); refine qI ?hg (N := 7) ?hd (cs := #[.int .i64 0, .int .i64 0]) (t := 66) ?hr ?_; (case hd => rfl); (case hg => rfl); (case hr => first | (go_simp; done) | (go_simp; rfl)); intro gb443 hg w22 hbox hb; have n0_ := za.mk (Kd.zL (by (with_reducible repeat (first | apply Kd.zn | apply Kd.zq | apply Kd.zu)); exact HO_5.out) hb); have n1_ := za.mk (zW (g := gb437) (o := .cells #[.int .i64 a0_0, .slice (some ad442) l0_1.length c0_1] 29 (0, 0)) (by (with_reducible repeat (first | refine zk ?_ _ | refine zm ?_ | refine zh ?_ _)); exact BK437.out) hb); have n2_ := za.mk (zT (by repeat (first | (with_reducible first | exact HB.out | apply zf | apply zb | apply zg | refine zi ?_ GE437.out) | exact HB.out)) hb); have n3_ := za.mk (hbox); have n4_ := za.mk ((by rw [hg]; exact (zB (by repeat (first | (with_reducible first | exact HB.out | apply zf | apply zb | apply zg | refine zi ?_ GE437.out) | exact HB.out))) : w.heap.size ≤ gb443)); have n5_ := za.mk ((by rw [hg]; exact (zB (by repeat (first | (with_reducible first | exact HB.out | apply zf | apply zb | apply zg | refine zi ?_ GE437.out) | exact HB.out))) : w.heap.size ≤ gb443)); have n6_ := za.mk ((by rw [hg]; exact Nat.ne_of_lt (qg (g := gb437) (o := .cells #[.int .i64 a0_0, .slice (some ad442) l0_1.length c0_1] 29 (0, 0)) (by (with_reducible repeat (first | refine zk ?_ _ | refine zm ?_ | refine zh ?_ _)); exact BK437.out)) : gb437 ≠ gb443)); have n7_ := za.mk ((by rw [hg]; exact Nat.ne_of_gt (qg (g := gb437) (o := .cells #[.int .i64 a0_0, .slice (some ad442) l0_1.length c0_1] 29 (0, 0)) (by (with_reducible repeat (first | refine zk ?_ _ | refine zm ?_ | refine zh ?_ _)); exact BK437.out)) : gb443 ≠ gb437)); clear HO_5; clear BK437; clear HB; have HO_5 := n0_; have BK437 := n1_; have HB := n2_; have BK443 := n3_; have GW443 := n4_; have GE443 := n5_; have NB437_443 := n6_; have NB443_437 := n7_; clear n0_ n1_ n2_ n3_ n4_ n5_ n6_ n7_; clear hb hbox hg; have hnb23 := NB443_437.out; have hnc23 := NB437_443.out; have hcz24_0 : w22.cell? ⟨gb443, 0, none⟩ = some (.int .i64 0) := (ze BK443.out 0).trans rfl; have hcz24_1 : w22.cell? ⟨gb443, 1, none⟩ = some (.int .i64 0) := (ze BK443.out 1).trans rfl; have hfz24_0 := zl BK443.out 0; have hfz24_1 := zl BK443.out 1) | ((with_reducible refine Zb (b := .append) (xs := #[.tmp 22, .tmp 25]) rfl ?_); at_builtin; refine Kd.ZU (Kd.int .i64) (w0 := w) w.heap.size rfl (.tmp 22) (.tmp 25) 22 3 (.int .i64 0) 8 rfl Try.underlying22 info3 rfl (by decide) (by omega) u5 x5_1 ((zF l0_1 x14_1).f1) [.int .i64 ((zF l0_1 x14_1).f1)] (fun _ => True) (fun _ => False) rfl (by first | (go_simp; done) | (go_simp; rfl)) ?aP (fun _ hk => hk.elim) ?aF ?aO ?aB ?aS ?aL ?_; (case aP => exact rfl); (case aB => exact (by repeat (first | (with_reducible first | exact HB.out | apply zf | apply zb | apply zg | refine zi ?_ GE437.out | refine zi ?_ GE443.out) | exact HB.out))); (case aF => exact (fun _ _ => trivial)); (case aO => exact (by (with_reducible repeat (first | apply Kd.zn | apply Kd.zq | apply Kd.zu)); exact Kd.zR (Kd.zz (p := ⟨gb443, 1, none⟩) (Kd.zz (p := ⟨gb443, 0, none⟩) (Kd.qw HO_5.out BK443.out (by decide)) (fun _ hk => hk.2) (.int .i64 ((zF l0_1 x14_1).f0))) (fun _ hk => hk.2) (.int .i64 ((zF l0_1 x14_1).f1))) (fun _ hk => trivial))); (case aS => exact (zB (by repeat (first | (with_reducible first | exact HB.out | apply zf | apply zb | apply zg | refine zi ?_ GE437.out | refine zi ?_ GE443.out) | exact HB.out)))); (case aL => have := LMc13.out; omega); intro v445 w25 ho hb hg hat; rw [← Ny444.out] at ho; have n0_ := za.mk (Zp (g := gb437) (o := .cells #[.int .i64 a0_0, .slice (some ad442) l0_1.length c0_1] 29 (0, 0)) (by (with_reducible repeat (first | refine zk ?_ _ | refine zm ?_ | refine zh ?_ _)); refine ql ?_ NB437_443.out _; (with_reducible repeat (first | refine zk ?_ _ | refine zm ?_ | refine zh ?_ _)); refine ql ?_ NB437_443.out _; (with_reducible repeat (first | refine zk ?_ _ | refine zm ?_ | refine zh ?_ _)); exact BK437.out) hg (Kd.R_ne HO_5.out BK437.out (by decide))); have n1_ := za.mk (Zp (g := gb443) (o := .cells #[.int .i64 ((zF l0_1 x14_1).f0), .int .i64 ((zF l0_1 x14_1).f1)] 66 (0, 0)) (by (with_reducible repeat (first | refine zk ?_ _ | refine zm ?_ | refine zh ?_ _)); refine zX (cs := #[.int .i64 ((zF l0_1 x14_1).f0), .int .i64 0]) ?_ 1 _ rfl; (with_reducible repeat (first | refine zk ?_ _ | refine zm ?_ | refine zh ?_ _)); refine zX (cs := #[.int .i64 0, .int .i64 0]) ?_ 0 _ rfl; (with_reducible repeat (first | refine zk ?_ _ | refine zm ?_ | refine zh ?_ _)); exact BK443.out) hg (Kd.R_ne HO_5.out BK443.out (by decide))); have n2_ := za.mk (hb); have n3_ := za.mk (ho); clear BK437; clear BK443; clear HB; clear HO_5; have BK437 := n0_; have BK443 := n1_; have HB := n2_; have HO446 := n3_; clear n0_ n1_ n2_ n3_; clear ho hb hg hat; have hcz26_0 : w25.cell? ⟨gb443, 0, none⟩ = some (.int .i64 ((zF l0_1 x14_1).f0)) := (ze BK443.out 0).trans rfl; have hcz26_1 : w25.cell? ⟨gb443, 1, none⟩ = some (.int .i64 ((zF l0_1 x14_1).f1)) := (ze BK443.out 1).trans rfl; have hfz26_0 := zl BK443.out 0; have hfz26_1 := zl BK443.out 1))
          go_roundg k1
          case measure => have := HK1.out; omega
          case rel => exact ⟨(y444), (wrap64 (x14_1 + 1)), (by first | rfl | (simp; done) | (simp [*]; done)), H', ⟨by have := HK1.out; omega⟩, ⟨by (with_reducible repeat (first | apply Kd.zn | apply Kd.zq | apply Kd.zu)); exact HO446.out⟩, ⟨by (with_reducible repeat (first | refine zk ?_ _ | refine zm ?_ | refine zh ?_ _)); exact BK437.out⟩, ⟨by repeat (first | (with_reducible first | exact HB.out | apply zf | apply zb | apply zg | refine zi ?_ GE437.out | refine zi ?_ GE443.out) | exact HB.out)⟩⟩
        ·rw [if_neg c13] at H
         exact absurd H (by simp)
       ·rw [if_neg c12] at H
        have c12b0 : (((zF l0_1 x14_1).f0) == a1) = false := beq_eq_false_iff_ne.mpr c12
        have c12b1 : (((zF l0_1 x14_1).f0) != a1) = true := bne_iff_ne.mpr c12
        by_cases c27 : ((zF l0_1 x14_1).f1) = a1
        ·rw [if_pos c27] at H
         have c27b0 : (((zF l0_1 x14_1).f1) == a1) = true := beq_iff_eq.mpr c27
         have c27b1 : (((zF l0_1 x14_1).f1) != a1) = false := bne_eq_false_iff_eq.mpr c27
         clear c27
         by_cases c28 : x5_1.length < 17592186044416
         ·rw [if_pos c28] at H
          have LMc28 := za.mk c28
          clear c28
          obtain ⟨y450, hy450⟩ : ∃ y_ : List Int, y_ = (x5_1 ++ [(zF l0_1 x14_1).f0]) := ⟨_, rfl⟩
          replace H : (zA.l0 k1 a1 y450 l0_1 (l0_1.length : Int) (wrap64 (x14_1 + 1))) = some r := by first | (rw [hy450]; with_reducible exact H) | (have H2_ := (Option.bind_some _ _).symm.trans H; rw [hy450]; with_reducible exact H2_) | (have H2_ := (Option.bind_some _ _).symm.trans H; with_reducible exact H2_) | with_reducible exact H | (rw [hy450]; exact H) | exact H
          have Ny450 := za.mk hy450
          clear hy450
          have H' := za.mk H
          clear H
          have p442 : 0 ≤ (x14_1 : Int) := of_decide_eq_true (by first | (with_reducible assumption) | assumption)
          have q442 : x14_1 < (l0_1.length : Int) := of_decide_eq_true (by first | (with_reducible assumption) | assumption)
          obtain ⟨ad442, e442, hx442_0, hx442_1⟩ := at_T66 HR0_1.out x14_1 p442 q442
          cases e442
          replace hx442_0 := (HB.out.cell (World.block_lt_of_cell? w _ hx442_0)).trans hx442_0
          replace hx442_1 := (HB.out.cell (World.block_lt_of_cell? w _ hx442_1)).trans hx442_1
          replace p442 := eq_true p442
          replace q442 := eq_true q442
          go_wp2_with (first | ((with_reducible refine qJ (N := 7) rfl ?_); refine qI ?hg (N := 7) ?hd (cs := #[.int .i64 0, .int .i64 0]) (t := 66) ?hr ?_; (case hd => rfl); (case hg => rfl); (case hr => first | (go_simp; done) | (go_simp; rfl)); intro gb443 hg w29 hbox hb; have n0_ := za.mk (Kd.zL (by (with_reducible repeat (first | apply Kd.zn | apply Kd.zq | apply Kd.zu)); exact HO_5.out) hb); have n1_ := za.mk (zW (g := gb437) (o := .cells #[.int .i64 a0_0, .slice (some ad442) l0_1.length c0_1] 29 (0, 0)) (by (with_reducible repeat (first | refine zk ?_ _ | refine zm ?_ | refine zh ?_ _)); exact BK437.out) hb); have n2_ := za.mk (zT (by repeat (first | (with_reducible first | exact HB.out | apply zf | apply zb | apply zg | refine zi ?_ GE437.out) | exact HB.out)) hb); have n3_ := za.mk (hbox); have n4_ := za.mk ((by rw [hg]; exact (zB (by repeat (first | (with_reducible first | exact HB.out | apply zf | apply zb | apply zg | refine zi ?_ GE437.out) | exact HB.out))) : w.heap.size ≤ gb443)); have n5_ := za.mk ((by rw [hg]; exact (zB (by repeat (first | (with_reducible first | exact HB.out | apply zf | apply zb | apply zg | refine zi ?_ GE437.out) | exact HB.out))) : w.heap.size ≤ gb443)); have n6_ := za.mk ((by rw [hg]; exact Nat.ne_of_lt (qg (g := gb437) (o := .cells #[.int .i64 a0_0, .slice (some ad442) l0_1.length c0_1] 29 (0, 0)) (by (with_reducible repeat (first | refine zk ?_ _ | refine zm ?_ | refine zh ?_ _)); exact BK437.out)) : gb437 ≠ gb443)); have n7_ := za.mk ((by rw [hg]; exact Nat.ne_of_gt (qg (g := gb437) (o := .cells #[.int .i64 a0_0, .slice (some ad442) l0_1.length c0_1] 29 (0, 0)) (by (with_reducible repeat (first | refine zk ?_ _ | refine zm ?_ | refine zh ?_ _)); exact BK437.out)) : gb443 ≠ gb437)); clear HO_5; clear BK437; clear HB; have HO_5 := n0_; have BK437 := n1_; have HB := n2_; have BK443 := n3_; have GW443 := n4_; have GE443 := n5_; have NB437_443 := n6_; have NB443_437 := n7_; clear n0_ n1_ n2_ n3_ n4_ n5_ n6_ n7_; clear hb hbox hg; have hnb30 := NB443_437.out; have hnc30 := NB437_443.out; have hcz31_0 : w29.cell? ⟨gb443, 0, none⟩ = some (.int .i64 0) := (ze BK443.out 0).trans rfl; have hcz31_1 : w29.cell? ⟨gb443, 1, none⟩ = some (.int .i64 0) := (ze BK443.out 1).trans rfl; have hfz31_0 := zl BK443.out 0; have hfz31_1 := zl BK443.out 1) | ((with_reducible refine Zb (b := .append) (xs := #[.tmp 31, .tmp 34]) rfl ?_); at_builtin; refine Kd.ZU (Kd.int .i64) (w0 := w) w.heap.size rfl (.tmp 31) (.tmp 34) 22 3 (.int .i64 0) 8 rfl Try.underlying22 info3 rfl (by decide) (by omega) u5 x5_1 ((zF l0_1 x14_1).f0) [.int .i64 ((zF l0_1 x14_1).f0)] (fun _ => True) (fun _ => False) rfl (by first | (go_simp; done) | (go_simp; rfl)) ?aP (fun _ hk => hk.elim) ?aF ?aO ?aB ?aS ?aL ?_; (case aP => exact rfl); (case aB => exact (by repeat (first | (with_reducible first | exact HB.out | apply zf | apply zb | apply zg | refine zi ?_ GE437.out | refine zi ?_ GE443.out) | exact HB.out))); (case aF => exact (fun _ _ => trivial)); (case aO => exact (by (with_reducible repeat (first | apply Kd.zn | apply Kd.zq | apply Kd.zu)); exact Kd.zR (Kd.zz (p := ⟨gb443, 1, none⟩) (Kd.zz (p := ⟨gb443, 0, none⟩) (Kd.qw HO_5.out BK443.out (by decide)) (fun _ hk => hk.2) (.int .i64 ((zF l0_1 x14_1).f0))) (fun _ hk => hk.2) (.int .i64 ((zF l0_1 x14_1).f1))) (fun _ hk => trivial))); (case aS => exact (zB (by repeat (first | (with_reducible first | exact HB.out | apply zf | apply zb | apply zg | refine zi ?_ GE437.out | refine zi ?_ GE443.out) | exact HB.out)))); (case aL => have := LMc28.out; omega); intro v451 w32 ho hb hg hat; rw [← Ny450.out] at ho; have n0_ := za.mk (Zp (g := gb437) (o := .cells #[.int .i64 a0_0, .slice (some ad442) l0_1.length c0_1] 29 (0, 0)) (by (with_reducible repeat (first | refine zk ?_ _ | refine zm ?_ | refine zh ?_ _)); refine ql ?_ NB437_443.out _; (with_reducible repeat (first | refine zk ?_ _ | refine zm ?_ | refine zh ?_ _)); refine ql ?_ NB437_443.out _; (with_reducible repeat (first | refine zk ?_ _ | refine zm ?_ | refine zh ?_ _)); exact BK437.out) hg (Kd.R_ne HO_5.out BK437.out (by decide))); have n1_ := za.mk (Zp (g := gb443) (o := .cells #[.int .i64 ((zF l0_1 x14_1).f0), .int .i64 ((zF l0_1 x14_1).f1)] 66 (0, 0)) (by (with_reducible repeat (first | refine zk ?_ _ | refine zm ?_ | refine zh ?_ _)); refine zX (cs := #[.int .i64 ((zF l0_1 x14_1).f0), .int .i64 0]) ?_ 1 _ rfl; (with_reducible repeat (first | refine zk ?_ _ | refine zm ?_ | refine zh ?_ _)); refine zX (cs := #[.int .i64 0, .int .i64 0]) ?_ 0 _ rfl; (with_reducible repeat (first | refine zk ?_ _ | refine zm ?_ | refine zh ?_ _)); exact BK443.out) hg (Kd.R_ne HO_5.out BK443.out (by decide))); have n2_ := za.mk (hb); have n3_ := za.mk (ho); clear BK437; clear BK443; clear HB; clear HO_5; have BK437 := n0_; have BK443 := n1_; have HB := n2_; have HO452 := n3_; clear n0_ n1_ n2_ n3_; clear ho hb hg hat))
          go_roundg k1
          case measure => have := HK1.out; omega
          case rel => exact ⟨(y450), (wrap64 (x14_1 + 1)), (by first | rfl | (simp; done) | (simp [*]; done)), H', ⟨by have := HK1.out; omega⟩, ⟨by (with_reducible repeat (first | apply Kd.zn | apply Kd.zq | apply Kd.zu)); exact HO452.out⟩, ⟨by (with_reducible repeat (first | refine zk ?_ _ | refine zm ?_ | refine zh ?_ _)); exact BK437.out⟩, ⟨by repeat (first | (with_reducible first | exact HB.out | apply zf | apply zb | apply zg | refine zi ?_ GE437.out | refine zi ?_ GE443.out) | exact HB.out)⟩⟩
         ·rw [if_neg c28] at H
          exact absurd H (by simp)
        ·rw [if_neg c27] at H
         have c27b0 : (((zF l0_1 x14_1).f1) == a1) = false := beq_eq_false_iff_ne.mpr c27
         have c27b1 : (((zF l0_1 x14_1).f1) != a1) = true := bne_iff_ne.mpr c27
         have H' := za.mk H
         clear H
         have p442 : 0 ≤ (x14_1 : Int) := of_decide_eq_true (by first | (with_reducible assumption) | assumption)
         have q442 : x14_1 < (l0_1.length : Int) := of_decide_eq_true (by first | (with_reducible assumption) | assumption)
         obtain ⟨ad442, e442, hx442_0, hx442_1⟩ := at_T66 HR0_1.out x14_1 p442 q442
         cases e442
         replace hx442_0 := (HB.out.cell (World.block_lt_of_cell? w _ hx442_0)).trans hx442_0
         replace hx442_1 := (HB.out.cell (World.block_lt_of_cell? w _ hx442_1)).trans hx442_1
         replace p442 := eq_true p442
         replace q442 := eq_true q442
         go_wp2_with (first | ((with_reducible refine qJ (N := 7) rfl ?_); refine qI ?hg (N := 7) ?hd (cs := #[.int .i64 0, .int .i64 0]) (t := 66) ?hr ?_; (case hd => rfl); (case hg => rfl); (case hr => first | (go_simp; done) | (go_simp; rfl)); intro gb443 hg w33 hbox hb; have n0_ := za.mk (Kd.zL (by (with_reducible repeat (first | apply Kd.zn | apply Kd.zq | apply Kd.zu)); exact HO_5.out) hb); have n1_ := za.mk (zW (g := gb437) (o := .cells #[.int .i64 a0_0, .slice (some ad442) l0_1.length c0_1] 29 (0, 0)) (by (with_reducible repeat (first | refine zk ?_ _ | refine zm ?_ | refine zh ?_ _)); exact BK437.out) hb); have n2_ := za.mk (zT (by repeat (first | (with_reducible first | exact HB.out | apply zf | apply zb | apply zg | refine zi ?_ GE437.out) | exact HB.out)) hb); have n3_ := za.mk (hbox); have n4_ := za.mk ((by rw [hg]; exact (zB (by repeat (first | (with_reducible first | exact HB.out | apply zf | apply zb | apply zg | refine zi ?_ GE437.out) | exact HB.out))) : w.heap.size ≤ gb443)); have n5_ := za.mk ((by rw [hg]; exact (zB (by repeat (first | (with_reducible first | exact HB.out | apply zf | apply zb | apply zg | refine zi ?_ GE437.out) | exact HB.out))) : w.heap.size ≤ gb443)); have n6_ := za.mk ((by rw [hg]; exact Nat.ne_of_lt (qg (g := gb437) (o := .cells #[.int .i64 a0_0, .slice (some ad442) l0_1.length c0_1] 29 (0, 0)) (by (with_reducible repeat (first | refine zk ?_ _ | refine zm ?_ | refine zh ?_ _)); exact BK437.out)) : gb437 ≠ gb443)); have n7_ := za.mk ((by rw [hg]; exact Nat.ne_of_gt (qg (g := gb437) (o := .cells #[.int .i64 a0_0, .slice (some ad442) l0_1.length c0_1] 29 (0, 0)) (by (with_reducible repeat (first | refine zk ?_ _ | refine zm ?_ | refine zh ?_ _)); exact BK437.out)) : gb443 ≠ gb437)); clear HO_5; clear BK437; clear HB; have HO_5 := n0_; have BK437 := n1_; have HB := n2_; have BK443 := n3_; have GW443 := n4_; have GE443 := n5_; have NB437_443 := n6_; have NB443_437 := n7_; clear n0_ n1_ n2_ n3_ n4_ n5_ n6_ n7_; clear hb hbox hg; have hnb34 := NB443_437.out; have hnc34 := NB437_443.out; have hcz35_0 : w33.cell? ⟨gb443, 0, none⟩ = some (.int .i64 0) := (ze BK443.out 0).trans rfl; have hcz35_1 : w33.cell? ⟨gb443, 1, none⟩ = some (.int .i64 0) := (ze BK443.out 1).trans rfl; have hfz35_0 := zl BK443.out 0; have hfz35_1 := zl BK443.out 1))
         go_roundg k1
         case measure => have := HK1.out; omega
         case rel => exact ⟨(x5_1), (wrap64 (x14_1 + 1)), (by first | rfl | (simp; done) | (simp [*]; done)), H', ⟨by have := HK1.out; omega⟩, ⟨by (with_reducible repeat (first | apply Kd.zn | apply Kd.zq | apply Kd.zu)); exact Kd.zR (Kd.zz (p := ⟨gb443, 1, none⟩) (Kd.zz (p := ⟨gb443, 0, none⟩) (Kd.qw HO_5.out BK443.out (by decide)) (fun _ hk => hk.2) (.int .i64 ((zF l0_1 x14_1).f0))) (fun _ hk => hk.2) (.int .i64 ((zF l0_1 x14_1).f1))) (fun _ hk => trivial)⟩, ⟨by (with_reducible repeat (first | refine zk ?_ _ | refine zm ?_ | refine zh ?_ _)); refine ql ?_ NB437_443.out _; (with_reducible repeat (first | refine zk ?_ _ | refine zm ?_ | refine zh ?_ _)); refine ql ?_ NB437_443.out _; (with_reducible repeat (first | refine zk ?_ _ | refine zm ?_ | refine zh ?_ _)); exact BK437.out⟩, ⟨by repeat (first | (with_reducible first | exact HB.out | apply zf | apply zb | apply zg | refine zi ?_ GE437.out | refine zi ?_ GE443.out) | exact HB.out)⟩⟩
      ·rw [if_neg c11] at H
       exact absurd H (by simp)
     ·rw [if_neg c10] at H
      exact absurd H (by simp)
    ·rw [if_neg c9] at H
     have c9b0 : decide (x14_1 < (l0_1.length : Int)) = false := decide_eq_false c9
     clear c9
     replace H := Option.bind_eq_some_iff.mp H
     obtain ⟨t439, A360, H⟩ := H
     replace H : (some t439) = some r := H
     have A36 := za.mk A360
     clear A360
     obtain rfl := Option.some.inj H
     obtain ⟨Ao37, co37, eo37⟩ := Kd.qC HO_5.out
     subst eo37
     go_wp2_with (first | ((with_reducible refine qc (f := 40) rfl ?_); refine qU (some 38) rfl rfl Try.func40 (by kernel_rfl) rfl #[.slice Ao37 x5_1.length co37] rfl (by (try simp only [List.map_toArray, List.map_cons, List.map_nil]); first | done | rfl | (simp only [List.length_drop, List.length_take]; rfl)) ?_; (with_reducible refine (zS.calls k1 _ _ x5_1 t439 _ ?side1 ?side2 A36.out).mono ?_); (case side1 => repeat (first | exact (Kd.zO HO_5.out).2.2 | (with_reducible refine Kd.qA ?_ _) | (with_reducible refine Kd.qz ?_ _) | (with_reducible refine Kd.qF ?_))); (case side2 => exact (Kd.zO HO_5.out).2.1); rintro e w38 ⟨v440, rfl, ho0, hb⟩; refine ⟨_, rfl, ?_⟩; have n0_ := za.mk (Kd.qG (by (with_reducible repeat (first | apply Kd.zn | apply Kd.zq | apply Kd.zu)); exact HO_5.out) (Kd.qL ho0) hb); have n1_ := za.mk (Kd.qM (Kd.qN ho0 (Kd.R_lt (by (with_reducible repeat (first | apply Kd.zn | apply Kd.zq | apply Kd.zu)); exact HO_5.out))) (zB (by repeat (first | (with_reducible first | exact HB.out | apply zf | apply zb | apply zg | refine zi ?_ GE437.out) | exact HB.out)))); have n2_ := za.mk (zW (g := gb437) (o := .cells #[.int .i64 a0_0, .slice A0_1 l0_1.length c0_1] 29 (0, 0)) (by (with_reducible repeat (first | refine zk ?_ _ | refine zm ?_ | refine zh ?_ _)); exact BK437.out) hb); have n3_ := za.mk (zT (by repeat (first | (with_reducible first | exact HB.out | apply zf | apply zb | apply zg | refine zi ?_ GE437.out) | exact HB.out)) hb); clear HO_5; clear BK437; clear HB; have HO_5 := n0_; have HO441 := n1_; have BK437 := n2_; have HB := n3_; clear n0_ n1_ n2_ n3_; (try clear hb); (try clear hb2); (try clear hk); (try clear hi); (try clear ho0)))
     go_ret
     exact ⟨_, by first | rfl | (simp [zQ, zP] <;> rfl) | (simp [*, zQ, zP] <;> rfl), by (with_reducible repeat (first | apply Kd.zn | apply Kd.zq | apply Kd.zu)); exact Kd.zR HO441.out (fun _ hk => trivial), by repeat (first | (with_reducible first | exact HB.out | apply zf | apply zb | apply zg | refine zi ?_ GE437.out) | exact HB.out)⟩
 ·rw [if_neg c4] at H
  have c4b0 : (t438 == 0) = false := beq_eq_false_iff_ne.mpr c4
  have c4b1 : (t438 != 0) = true := bne_iff_ne.mpr c4
  obtain rfl := Option.some.inj H
  go_enter Try.func14, Try.ntmps14
  go_wp2_with (first | ((with_reducible refine qJ (N := 2) rfl ?_); refine qI ?hg (N := 2) ?hd (cs := #[.int .i64 a0_0, .slice A0_1 l0_1.length c0_1]) (t := 29) ?hr ?_; (case hd => rfl); (case hg => rfl); (case hr => first | (go_simp; done) | (go_simp; rfl)); intro gb437 hg w39 hbox hb; have n0_ := za.mk (zT (by repeat (first | (with_reducible first | exact HB.out | apply zf | apply zb | apply zg) | exact HB.out)) hb); have n1_ := za.mk (hbox); have n2_ := za.mk ((by rw [hg]; exact (zB (by repeat (first | (with_reducible first | exact HB.out | apply zf | apply zb | apply zg) | exact HB.out))) : w.heap.size ≤ gb437)); have n3_ := za.mk ((by rw [hg]; exact (zB (by repeat (first | (with_reducible first | exact HB.out | apply zf | apply zb | apply zg) | exact HB.out))) : w.heap.size ≤ gb437)); clear HB; have HB := n0_; have BK437 := n1_; have GW437 := n2_; have GE437 := n3_; clear n0_ n1_ n2_ n3_; clear hb hbox hg; have hcz40_0 : w39.cell? ⟨gb437, 0, none⟩ = some (.int .i64 a0_0) := (ze BK437.out 0).trans rfl; have hcz40_1 : w39.cell? ⟨gb437, 1, none⟩ = some (.slice A0_1 l0_1.length c0_1) := (ze BK437.out 1).trans rfl; have hfz40_0 := zl BK437.out 0; have hfz40_1 := zl BK437.out 1) | ((with_reducible refine qc (f := 39) rfl ?_); refine qU (some 9) rfl rfl Try.func39 (by kernel_rfl) rfl #[.agg #[.int .i64 a0_0, .slice A0_1 l0_1.length c0_1]] rfl (by (try simp only [List.map_toArray, List.map_cons, List.map_nil]); first | done | rfl | (simp only [List.length_drop, List.length_take]; rfl)) ?_; (with_reducible refine (zx.calls k a0_0 _ _ l0_1 t438 _ ?side1 ?side2 A3.out).mono ?_); (case side1 => repeat (first | exact (Kd.qB HR0_1.out HB.out) | (with_reducible refine Kd.qA ?_ _) | (with_reducible refine Kd.qz ?_ _) | (with_reducible refine Kd.qF ?_))); (case side2 => exact HC0_1.out); rintro e w41 ⟨rfl, hb⟩; refine ⟨_, rfl, ?_⟩; have n0_ := za.mk (zW (g := gb437) (o := .cells #[.int .i64 a0_0, .slice A0_1 l0_1.length c0_1] 29 (0, 0)) (by (with_reducible repeat (first | refine zk ?_ _ | refine zm ?_ | refine zh ?_ _)); exact BK437.out) hb); have n1_ := za.mk (zT (by repeat (first | (with_reducible first | exact HB.out | apply zf | apply zb | apply zg | refine zi ?_ GE437.out) | exact HB.out)) hb); clear BK437; clear HB; have BK437 := n0_; have HB := n1_; clear n0_ n1_; (try clear hb); (try clear hb2); (try clear hk); (try clear hi)))
  go_ret
  exact ⟨_, by first | rfl | (simp [zQ, zP] <;> rfl) | (simp [*, zQ, zP] <;> rfl), by first | exact Kd.ZO _ _ _ _ _ | exact Kd.N_nil _ _ _ _ _ | exact Kd.V_nil _ _ _ _ _ | exact Kd.Q_nil _ _ _ _ _ | exact Kd.S_nil _ _ _ _ _, by repeat (first | (with_reducible first | exact HB.out | apply zf | apply zb | apply zg | refine zi ?_ GE437.out) | exact HB.out)⟩
def qa.l0 : Nat → Int → List Int → Int → Int → Option (Bool)
 | 0, _, _, _, _ => none
 | k + 1, x1, x7, x8, x9 => if x9 < x8 then (if 0 ≤ x9 then (if x9 < (x7.length : Int) then (if (rd x7 x9) = x1 then (some true) else (qa.l0 k x1 x7 x8 (wrap64 (x9 + 1)))) else (none)) else (none)) else (some false)
def qa.f (k : Nat) (l0 : List Int) (a1 : Int) : Option (Bool) := qa.l0 k a1 l0 (l0.length : Int) 0
theorem qa.qV : ∀ k, (∀ y0 y1 y2 y3, LeO (qa.l0 k y0 y1 y2 y3) (qa.l0 (k + 1) y0 y1 y2 y3))
 | 0 => fun _ _ _ _ r h => by simp [qa.l0] at h
 | k + 1 => by
  have ih0 := qa.qV k
  ·intro y0 y1 y2 y3
   unfold qa.l0
   repeat' first
   | (with_reducible exact ih0 _ _ _ _)
   | (with_reducible exact LeO.refl _)
   | (with_reducible exact LeO.none _)
   | (with_reducible refine LeO.ite ?_ ?_)
   | (with_reducible refine LeO.bind ?_ (fun _ => ?_))
   | exact ih0 _ _ _ _
   | exact LeO.none _
   | refine LeO.ite ?_ ?_
   | refine LeO.bind ?_ (fun _ => ?_)
theorem qa.mono : ∀ a0 a1 k, LeO (qa.f k a0 a1) (qa.f (k + 1) a0 a1) := by
 intro a0 a1 k
 have ih0 := qa.qV k
 unfold qa.f
 repeat' first
  | (with_reducible exact ih0 _ _ _ _)
  | (with_reducible exact LeO.refl _)
  | (with_reducible exact LeO.none _)
  | (with_reducible refine LeO.ite ?_ ?_)
  | (with_reducible refine LeO.bind ?_ (fun _ => ?_))
  | exact ih0 _ _ _ _
  | exact LeO.none _
  | refine LeO.ite ?_ ?_
  | refine LeO.bind ?_ (fun _ => ?_)
set_option maxHeartbeats 8000000 in
set_option maxRecDepth 100000 in
theorem qa.calls (k : Nat) (A0 : Option Addr) (c0 : Nat) (l0 : List Int) (a1 : Int) (r : Bool) (w : World) (hr0 : Kd.C (Kd.int .i64) w A0 l0.length l0) (hc0 : l0.length ≤ c0) (h : qa.f k l0 a1 = some r) :
  Calls Try.prog 41 #[.slice A0 l0.length c0, .int .i64 a1] w fun e w' => e = .returned (.bool r) ∧ qb w w' := by
 have HR0 := za.mk hr0
 have HC0 := za.mk hc0
 clear hr0 hc0
 have H : (qa.l0 k a1 l0 (l0.length : Int) 0) = some r := h
 clear h
 have H' := za.mk H
 clear H
 go_enter Try.func41, Try.ntmps41
 go_wp2
 go_loopg [9] k (fun kq v9 w' => ∃ (x9_1 : Int), v9 = .int .i64 x9_1 ∧ za (qa.l0 kq a1 l0 (l0.length : Int) x9_1 = some r) ∧ za (kq ≤ k) ∧ qb w w')
 case atStart => exact ⟨(0), (by first | rfl | (simp; done) | (simp [*]; done)), H', ⟨Nat.le_refl _⟩, by repeat (first | exact qb.refl _ | apply qb.step)⟩
 case round =>
  clear H'
  try clear p2
  obtain ⟨x9_1, rfl, HA, HK1, ⟨m1, rfl⟩⟩ := hrel
  cases gk with
  | zero => exact absurd HA.out (by simp [qa.l0])
  | succ k1 =>
   have H := HA.out
   clear HA
   simp only [qa.l0] at H
   by_cases c3 : x9_1 < (l0.length : Int)
   ·rw [if_pos c3] at H
    have c3b0 : decide (x9_1 < (l0.length : Int)) = true := decide_eq_true c3
    clear c3
    by_cases c4 : 0 ≤ x9_1
    ·rw [if_pos c4] at H
     have c4b0 : decide (0 ≤ x9_1) = true := decide_eq_true c4
     clear c4
     by_cases c5 : x9_1 < (l0.length : Int)
     ·rw [if_pos c5] at H
      have c5b0 : decide (x9_1 < (l0.length : Int)) = true := decide_eq_true c5
      clear c5
      by_cases c6 : (rd l0 x9_1) = a1
      ·rw [if_pos c6] at H
       have c6b0 : ((rd l0 x9_1) == a1) = true := beq_iff_eq.mpr c6
       have c6b1 : ((rd l0 x9_1) != a1) = false := bne_eq_false_iff_eq.mpr c6
       clear c6
       obtain rfl := Option.some.inj H
       have p453 : 0 ≤ (x9_1 : Int) := of_decide_eq_true (by first | (with_reducible assumption) | assumption)
       have q453 : x9_1 < (l0.length : Int) := of_decide_eq_true (by first | (with_reducible assumption) | assumption)
       obtain ⟨ad453, e453, hx453_0⟩ := Kd.qX HR0.out x9_1 p453 q453
       cases e453
       replace p453 := eq_true p453
       replace q453 := eq_true q453
       go_wp2
       go_ret
       exact ⟨by first | rfl | (simp; done) | (simp [*]; done), by repeat (first | exact qb.refl _ | apply qb.step)⟩
      ·rw [if_neg c6] at H
       have c6b0 : ((rd l0 x9_1) == a1) = false := beq_eq_false_iff_ne.mpr c6
       have c6b1 : ((rd l0 x9_1) != a1) = true := bne_iff_ne.mpr c6
       have H' := za.mk H
       clear H
       have p453 : 0 ≤ (x9_1 : Int) := of_decide_eq_true (by first | (with_reducible assumption) | assumption)
       have q453 : x9_1 < (l0.length : Int) := of_decide_eq_true (by first | (with_reducible assumption) | assumption)
       obtain ⟨ad453, e453, hx453_0⟩ := Kd.qX HR0.out x9_1 p453 q453
       cases e453
       replace p453 := eq_true p453
       replace q453 := eq_true q453
       go_wp2
       go_roundg k1
       case measure => have := HK1.out; omega
       case rel => exact ⟨(wrap64 (x9_1 + 1)), (by first | rfl | (simp; done) | (simp [*]; done)), H', ⟨by have := HK1.out; omega⟩, by repeat (first | exact qb.refl _ | apply qb.step)⟩
     ·rw [if_neg c5] at H
      exact absurd H (by simp)
    ·rw [if_neg c4] at H
     exact absurd H (by simp)
   ·rw [if_neg c3] at H
    have c3b0 : decide (x9_1 < (l0.length : Int)) = false := decide_eq_false c3
    clear c3
    obtain rfl := Option.some.inj H
    go_wp2
    go_ret
    exact ⟨by first | rfl | (simp; done) | (simp [*]; done), by repeat (first | exact qb.refl _ | apply qb.step)⟩
def zD.l0 : Nat → List Int → List Int → List Int → Int → Int → Option (List Int)
 | 0, _, _, _, _, _ => none
 | k + 1, x1, x5, x9, x10, x11 => if x11 < x10 then (if 0 ≤ x11 then (if x11 < (x9.length : Int) then ((qa.f k x1 (rd x9 x11)).bind fun t458 => (if t458 = true then (zD.l0 k x1 x5 x9 x10 (wrap64 (x11 + 1))) else (if x5.length < 17592186044416 then (zD.l0 k x1 (x5 ++ [rd x9 x11]) x9 x10 (wrap64 (x11 + 1))) else (none)))) else (none)) else (none)) else (some x5)
def zD.f (k : Nat) (l0 : List Int) (l1 : List Int) : Option (List Int) := (zS.f k l0).bind fun t454 => (zD.l0 k l1 ([] : List Int) t454 (t454.length : Int) 0)
theorem zD.qV : ∀ k, (∀ y0 y1 y2 y3 y4, LeO (zD.l0 k y0 y1 y2 y3 y4) (zD.l0 (k + 1) y0 y1 y2 y3 y4))
 | 0 => fun _ _ _ _ _ r h => by simp [zD.l0] at h
 | k + 1 => by
  have ih0 := zD.qV k
  ·intro y0 y1 y2 y3 y4
   unfold zD.l0
   repeat' first
   | (with_reducible exact ih0 _ _ _ _ _)
   | (with_reducible exact qa.mono _ _ _)
   | (with_reducible exact zS.mono _ _)
   | (with_reducible exact LeO.refl _)
   | (with_reducible exact LeO.none _)
   | (with_reducible refine LeO.ite ?_ ?_)
   | (with_reducible refine LeO.bind ?_ (fun _ => ?_))
   | exact ih0 _ _ _ _ _
   | exact qa.mono _ _ _
   | exact zS.mono _ _
   | exact LeO.none _
   | refine LeO.ite ?_ ?_
   | refine LeO.bind ?_ (fun _ => ?_)
theorem zD.mono : ∀ a0 a1 k, LeO (zD.f k a0 a1) (zD.f (k + 1) a0 a1) := by
 intro a0 a1 k
 have ih0 := zD.qV k
 unfold zD.f
 repeat' first
  | (with_reducible exact ih0 _ _ _ _ _)
  | (with_reducible exact qa.mono _ _ _)
  | (with_reducible exact zS.mono _ _)
  | (with_reducible exact LeO.refl _)
  | (with_reducible exact LeO.none _)
  | (with_reducible refine LeO.ite ?_ ?_)
  | (with_reducible refine LeO.bind ?_ (fun _ => ?_))
  | exact ih0 _ _ _ _ _
  | exact qa.mono _ _ _
  | exact zS.mono _ _
  | exact LeO.none _
  | refine LeO.ite ?_ ?_
  | refine LeO.bind ?_ (fun _ => ?_)
set_option maxHeartbeats 8000000 in
set_option maxRecDepth 100000 in
theorem zD.calls (k : Nat) (A0 : Option Addr) (c0 : Nat) (l0 : List Int) (A1 : Option Addr) (c1 : Nat) (l1 : List Int) (r : List Int) (w : World) (hr0 : Kd.C (Kd.int .i64) w A0 l0.length l0) (hc0 : l0.length ≤ c0) (hr1 : Kd.C (Kd.int .i64) w A1 l1.length l1) (hc1 : l1.length ≤ c1) (h : zD.f k l0 l1 = some r) :
  Calls Try.prog 15 #[.slice A0 l0.length c0, .slice A1 l1.length c1] w fun e w' => ∃ v0_ : Value, e = .returned (v0_) ∧ Kd.R (Kd.int .i64) 3 w' w.heap.size (fun _ => True) v0_ r ∧ Below w.heap.size w w' := by
 have HR0 := za.mk hr0
 have HC0 := za.mk hc0
 clear hr0 hc0
 have HR1 := za.mk hr1
 have HC1 := za.mk hc1
 clear hr1 hc1
 have HB := za.mk (Below.refl w.heap.size w)
 have H : ((zS.f k l0).bind fun t454 => (zD.l0 k l1 ([] : List Int) t454 (t454.length : Int) 0)) = some r := h
 clear h
 replace H := Option.bind_eq_some_iff.mp H
 obtain ⟨t454, A30, H⟩ := H
 replace H : (zD.l0 k l1 ([] : List Int) t454 (t454.length : Int) 0) = some r := H
 have A3 := za.mk A30
 clear A30
 have H' := za.mk H
 clear H
 go_enter Try.func15, Try.ntmps15
 go_wp2_with (first | ((with_reducible refine qc (f := 40) rfl ?_); refine qU (some 9) rfl rfl Try.func40 (by kernel_rfl) rfl #[.slice A0 l0.length c0] rfl (by (try simp only [List.map_toArray, List.map_cons, List.map_nil]); first | done | rfl | (simp only [List.length_drop, List.length_take]; rfl)) ?_; (with_reducible refine (zS.calls k _ _ l0 t454 _ ?side1 ?side2 A3.out).mono ?_); (case side1 => repeat (first | exact HR0.out | (with_reducible refine Kd.qA ?_ _) | (with_reducible refine Kd.qz ?_ _) | (with_reducible refine Kd.qF ?_))); (case side2 => exact HC0.out); rintro e w4 ⟨v455, rfl, ho0, hb⟩; refine ⟨_, rfl, ?_⟩; have n0_ := za.mk (Kd.qM ho0 (zB (by repeat (first | (with_reducible first | exact HB.out | apply zf | apply zb | apply zg) | exact HB.out)))); have n1_ := za.mk (zT (by repeat (first | (with_reducible first | exact HB.out | apply zf | apply zb | apply zg) | exact HB.out)) hb); clear HB; have HO456 := n0_; have HB := n1_; clear n0_ n1_; (try clear hb); (try clear hb2); (try clear hk); (try clear hi); (try clear ho0); obtain ⟨Ao5, co5, eo5⟩ := Kd.qC HO456.out; subst eo5))
 go_loopg [5, 11] k (fun kq v5 v11 w' => ∃ (x5_1 : List Int) (x11_1 : Int), v11 = .int .i64 x11_1 ∧ za (zD.l0 kq l1 x5_1 t454 (t454.length : Int) x11_1 = some r) ∧ za (kq ≤ k) ∧ za (Kd.R (Kd.int .i64) 3 w' w.heap.size (fun k_ => some k_ ≠ ((.slice Ao5 t454.length co5) : Value).ownBlock) v5 x5_1) ∧ za (Kd.R (Kd.int .i64) 3 w' w.heap.size (fun k_ => some k_ ≠ (v5 : Value).ownBlock) (.slice Ao5 t454.length co5) t454) ∧ za (Below w.heap.size w w'))
 case atStart => exact ⟨(([] : List Int)), (0), (by first | rfl | (simp; done) | (simp [*]; done)), H', ⟨Nat.le_refl _⟩, ⟨by first | exact Kd.ZO _ _ _ _ _ | exact Kd.N_nil _ _ _ _ _ | exact Kd.V_nil _ _ _ _ _ | exact Kd.Q_nil _ _ _ _ _ | exact Kd.S_nil _ _ _ _ _⟩, ⟨by (with_reducible repeat (first | apply Kd.zn | apply Kd.zq | apply Kd.zu)); exact Kd.zR HO456.out (fun _ hk => (by simp [Value.ownBlock]))⟩, ⟨by repeat (first | (with_reducible first | exact HB.out | apply zf | apply zb | apply zg) | exact HB.out)⟩⟩
 case round =>
  clear H'
  try clear c1
  try clear p2
  try clear c4
  obtain ⟨x5_1, x11_1, rfl, HA, HK1, HO_5, HO_9, HB⟩ := hrel
  cases gk with
  | zero => exact absurd HA.out (by simp [zD.l0])
  | succ k1 =>
   have H := HA.out
   clear HA
   simp only [zD.l0] at H
   by_cases c6 : x11_1 < (t454.length : Int)
   ·rw [if_pos c6] at H
    have c6b0 : decide (x11_1 < (t454.length : Int)) = true := decide_eq_true c6
    clear c6
    by_cases c7 : 0 ≤ x11_1
    ·rw [if_pos c7] at H
     have c7b0 : decide (0 ≤ x11_1) = true := decide_eq_true c7
     clear c7
     by_cases c8 : x11_1 < (t454.length : Int)
     ·rw [if_pos c8] at H
      have c8b0 : decide (x11_1 < (t454.length : Int)) = true := decide_eq_true c8
      clear c8
      replace H := Option.bind_eq_some_iff.mp H
      obtain ⟨t458, A90, H⟩ := H
      replace H : (if t458 = true then (zD.l0 k1 l1 x5_1 t454 (t454.length : Int) (wrap64 (x11_1 + 1))) else (if x5_1.length < 17592186044416 then (zD.l0 k1 l1 (x5_1 ++ [rd t454 x11_1]) t454 (t454.length : Int) (wrap64 (x11_1 + 1))) else (none))) = some r := H
      have A9 := za.mk A90
      clear A90
      by_cases c10 : t458 = true
      ·subst c10
       have H1 : (zD.l0 k1 l1 x5_1 t454 (t454.length : Int) (wrap64 (x11_1 + 1))) = some r := by rw [if_pos rfl] at H; exact H
       clear H
       have H := H1
       clear H1
       have H' := za.mk H
       clear H
       have p457 : 0 ≤ (x11_1 : Int) := of_decide_eq_true (by first | (with_reducible assumption) | assumption)
       have q457 : x11_1 < (t454.length : Int) := of_decide_eq_true (by first | (with_reducible assumption) | assumption)
       obtain ⟨ad457, e457, hx457_0⟩ := Kd.qX (Kd.zO HO_9.out).2.2 x11_1 p457 q457
       cases e457
       replace p457 := eq_true p457
       replace q457 := eq_true q457
       go_wp2_with (first | ((with_reducible refine qc (f := 41) rfl ?_); refine qU (some 17) rfl rfl Try.func41 (by kernel_rfl) rfl #[.slice A1 l1.length c1, .int .i64 (rd t454 x11_1)] rfl (by (try simp only [List.map_toArray, List.map_cons, List.map_nil]); first | done | rfl | (simp only [List.length_drop, List.length_take]; rfl)) ?_; (with_reducible refine (qa.calls k1 _ _ l1 (rd t454 x11_1) true _ ?side1 ?side2 A9.out).mono ?_); (case side1 => repeat (first | exact (Kd.qB HR1.out HB.out) | (with_reducible refine Kd.qA ?_ _) | (with_reducible refine Kd.qz ?_ _) | (with_reducible refine Kd.qF ?_))); (case side2 => exact HC1.out); rintro e w' ⟨rfl, ⟨nd, rfl⟩⟩; refine ⟨_, rfl, ?_⟩))
       go_roundg k1
       case measure => have := HK1.out; omega
       case rel => exact ⟨(x5_1), (wrap64 (x11_1 + 1)), (by first | rfl | (simp; done) | (simp [*]; done)), H', ⟨by have := HK1.out; omega⟩, ⟨by (with_reducible repeat (first | apply Kd.zn | apply Kd.zq | apply Kd.zu)); exact HO_5.out⟩, ⟨by (with_reducible repeat (first | apply Kd.zn | apply Kd.zq | apply Kd.zu)); exact HO_9.out⟩, ⟨by repeat (first | (with_reducible first | exact HB.out | apply zf | apply zb | apply zg) | exact HB.out)⟩⟩
      ·replace c10 := Bool.eq_false_iff.mpr c10
       subst c10
       have H1 : (if x5_1.length < 17592186044416 then (zD.l0 k1 l1 (x5_1 ++ [rd t454 x11_1]) t454 (t454.length : Int) (wrap64 (x11_1 + 1))) else (none)) = some r := by rw [if_neg (show ¬ (false = true) by decide)] at H; exact H
       clear H
       have H := H1
       clear H1
       by_cases c11 : x5_1.length < 17592186044416
       ·rw [if_pos c11] at H
        have LMc11 := za.mk c11
        clear c11
        obtain ⟨y459, hy459⟩ : ∃ y_ : List Int, y_ = (x5_1 ++ [rd t454 x11_1]) := ⟨_, rfl⟩
        replace H : (zD.l0 k1 l1 y459 t454 (t454.length : Int) (wrap64 (x11_1 + 1))) = some r := by first | (rw [hy459]; with_reducible exact H) | (have H2_ := (Option.bind_some _ _).symm.trans H; rw [hy459]; with_reducible exact H2_) | (have H2_ := (Option.bind_some _ _).symm.trans H; with_reducible exact H2_) | with_reducible exact H | (rw [hy459]; exact H) | exact H
        have Ny459 := za.mk hy459
        clear hy459
        have H' := za.mk H
        clear H
        have p457 : 0 ≤ (x11_1 : Int) := of_decide_eq_true (by first | (with_reducible assumption) | assumption)
        have q457 : x11_1 < (t454.length : Int) := of_decide_eq_true (by first | (with_reducible assumption) | assumption)
        obtain ⟨ad457, e457, hx457_0⟩ := Kd.qX (Kd.zO HO_9.out).2.2 x11_1 p457 q457
        cases e457
        replace p457 := eq_true p457
        replace q457 := eq_true q457
        go_wp2_with (first | ((with_reducible refine qc (f := 41) rfl ?_); refine qU (some 17) rfl rfl Try.func41 (by kernel_rfl) rfl #[.slice A1 l1.length c1, .int .i64 (rd t454 x11_1)] rfl (by (try simp only [List.map_toArray, List.map_cons, List.map_nil]); first | done | rfl | (simp only [List.length_drop, List.length_take]; rfl)) ?_; (with_reducible refine (qa.calls k1 _ _ l1 (rd t454 x11_1) false _ ?side1 ?side2 A9.out).mono ?_); (case side1 => repeat (first | exact (Kd.qB HR1.out HB.out) | (with_reducible refine Kd.qA ?_ _) | (with_reducible refine Kd.qz ?_ _) | (with_reducible refine Kd.qF ?_))); (case side2 => exact HC1.out); rintro e w' ⟨rfl, ⟨nd, rfl⟩⟩; refine ⟨_, rfl, ?_⟩) | ((with_reducible refine Zb (b := .append) (xs := #[.tmp 19, .tmp 21]) rfl ?_); at_builtin; refine Kd.ZU (Kd.int .i64) (w0 := w) w.heap.size rfl (.tmp 19) (.tmp 21) 22 3 (.int .i64 0) 8 rfl Try.underlying22 info3 rfl (by decide) (by omega) u5 x5_1 (rd t454 x11_1) [.int .i64 (rd t454 x11_1)] (fun k_ => some k_ ≠ (.slice (some ad457) t454.length co5 : Value).ownBlock) (fun _ => False) rfl rfl ?aP (fun _ hk => hk.elim) ?aF ?aO ?aB ?aS ?aL ?_; (case aP => exact rfl); (case aB => exact (by repeat (first | (with_reducible first | exact HB.out | apply zf | apply zb | apply zg) | exact HB.out))); (case aF => exact (fun k_ hk => Kd.fresh' (Kd.R_lt (by (with_reducible repeat (first | apply Kd.zn | apply Kd.zq | apply Kd.zu)); exact HO_9.out)) k_ hk)); (case aO => exact (by (with_reducible repeat (first | apply Kd.zn | apply Kd.zq | apply Kd.zu)); exact HO_5.out)); (case aS => exact (zB (by repeat (first | (with_reducible first | exact HB.out | apply zf | apply zb | apply zg) | exact HB.out)))); (case aL => have := LMc11.out; omega); intro v460 w12 ho hb hg hat; rw [← Ny459.out] at ho; have n0_ := za.mk (Kd.Zf (ok := (fun _ => True)) (by (with_reducible repeat (first | apply Kd.zn | apply Kd.zq | apply Kd.zu)); exact Kd.zR HO_9.out (fun _ hk => ⟨trivial, hk⟩)) hg hat); have n1_ := za.mk (hb); have n2_ := za.mk (ho); clear HO_9; clear HB; clear HO_5; have HO_9 := n0_; have HB := n1_; have HO461 := n2_; clear n0_ n1_ n2_; clear ho hb hg hat))
        go_roundg k1
        case measure => have := HK1.out; omega
        case rel => exact ⟨(y459), (wrap64 (x11_1 + 1)), (by first | rfl | (simp; done) | (simp [*]; done)), H', ⟨by have := HK1.out; omega⟩, ⟨by (with_reducible repeat (first | apply Kd.zn | apply Kd.zq | apply Kd.zu)); exact HO461.out⟩, ⟨by (with_reducible repeat (first | apply Kd.zn | apply Kd.zq | apply Kd.zu)); exact Kd.zR HO_9.out (fun _ hk => hk.2)⟩, ⟨by repeat (first | (with_reducible first | exact HB.out | apply zf | apply zb | apply zg) | exact HB.out)⟩⟩
       ·rw [if_neg c11] at H
        exact absurd H (by simp)
     ·rw [if_neg c8] at H
      exact absurd H (by simp)
    ·rw [if_neg c7] at H
     exact absurd H (by simp)
   ·rw [if_neg c6] at H
    have c6b0 : decide (x11_1 < (t454.length : Int)) = false := decide_eq_false c6
    clear c6
    obtain rfl := Option.some.inj H
    go_wp2
    go_ret
    exact ⟨_, by first | rfl | (simp [zQ, zP] <;> rfl) | (simp [*, zQ, zP] <;> rfl), by (with_reducible repeat (first | apply Kd.zn | apply Kd.zq | apply Kd.zu)); exact Kd.zR HO_5.out (fun _ hk => trivial), by repeat (first | (with_reducible first | exact HB.out | apply zf | apply zb | apply zg) | exact HB.out)⟩
def zH.l0 : Nat → List Int → Int → List Int → Int → Int → Option (Bool)
 | 0, _, _, _, _, _ => none
 | k + 1, x0, x1, x7, x8, x9 => if x9 < x8 then (if 0 ≤ x9 then (if x9 < (x7.length : Int) then (if (rd x7 x9) < 0 then (some false) else (if (rd x7 x9) ≥ x1 then (some false) else (if x9 > 0 then (if 0 ≤ (wrap64 (x9 - 1)) then (if (wrap64 (x9 - 1)) < (x0.length : Int) then (if (rd x0 (wrap64 (x9 - 1))) ≥ (rd x7 x9) then (some false) else (zH.l0 k x0 x1 x7 x8 (wrap64 (x9 + 1)))) else (none)) else (none)) else (zH.l0 k x0 x1 x7 x8 (wrap64 (x9 + 1)))))) else (none)) else (none)) else (some true)
def zH.f (k : Nat) (l0 : List Int) (a1 : Int) : Option (Bool) := zH.l0 k l0 a1 l0 (l0.length : Int) 0
theorem zH.qV : ∀ k, (∀ y0 y1 y2 y3 y4, LeO (zH.l0 k y0 y1 y2 y3 y4) (zH.l0 (k + 1) y0 y1 y2 y3 y4))
 | 0 => fun _ _ _ _ _ r h => by simp [zH.l0] at h
 | k + 1 => by
  have ih0 := zH.qV k
  ·intro y0 y1 y2 y3 y4
   unfold zH.l0
   repeat' first
   | (with_reducible exact ih0 _ _ _ _ _)
   | (with_reducible exact LeO.refl _)
   | (with_reducible exact LeO.none _)
   | (with_reducible refine LeO.ite ?_ ?_)
   | (with_reducible refine LeO.bind ?_ (fun _ => ?_))
   | exact ih0 _ _ _ _ _
   | exact LeO.none _
   | refine LeO.ite ?_ ?_
   | refine LeO.bind ?_ (fun _ => ?_)
theorem zH.mono : ∀ a0 a1 k, LeO (zH.f k a0 a1) (zH.f (k + 1) a0 a1) := by
 intro a0 a1 k
 have ih0 := zH.qV k
 unfold zH.f
 repeat' first
  | (with_reducible exact ih0 _ _ _ _ _)
  | (with_reducible exact LeO.refl _)
  | (with_reducible exact LeO.none _)
  | (with_reducible refine LeO.ite ?_ ?_)
  | (with_reducible refine LeO.bind ?_ (fun _ => ?_))
  | exact ih0 _ _ _ _ _
  | exact LeO.none _
  | refine LeO.ite ?_ ?_
  | refine LeO.bind ?_ (fun _ => ?_)
set_option maxHeartbeats 8000000 in
set_option maxRecDepth 100000 in
theorem zH.calls (k : Nat) (A0 : Option Addr) (c0 : Nat) (l0 : List Int) (a1 : Int) (r : Bool) (w : World) (hr0 : Kd.C (Kd.int .i64) w A0 l0.length l0) (hc0 : l0.length ≤ c0) (h : zH.f k l0 a1 = some r) :
  Calls Try.prog 42 #[.slice A0 l0.length c0, .int .i64 a1] w fun e w' => e = .returned (.bool r) ∧ qb w w' := by
 have HR0 := za.mk hr0
 have HC0 := za.mk hc0
 clear hr0 hc0
 have H : (zH.l0 k l0 a1 l0 (l0.length : Int) 0) = some r := h
 clear h
 have H' := za.mk H
 clear H
 go_enter Try.func42, Try.ntmps42
 go_wp2
 go_loopg [9] k (fun kq v9 w' => ∃ (x9_1 : Int), v9 = .int .i64 x9_1 ∧ za (zH.l0 kq l0 a1 l0 (l0.length : Int) x9_1 = some r) ∧ za (kq ≤ k) ∧ qb w w')
 case atStart => exact ⟨(0), (by first | rfl | (simp; done) | (simp [*]; done)), H', ⟨Nat.le_refl _⟩, by repeat (first | exact qb.refl _ | apply qb.step)⟩
 case round =>
  clear H'
  try clear p2
  obtain ⟨x9_1, rfl, HA, HK1, ⟨m1, rfl⟩⟩ := hrel
  cases gk with
  | zero => exact absurd HA.out (by simp [zH.l0])
  | succ k1 =>
   have H := HA.out
   clear HA
   simp only [zH.l0] at H
   by_cases c3 : x9_1 < (l0.length : Int)
   ·rw [if_pos c3] at H
    have c3b0 : decide (x9_1 < (l0.length : Int)) = true := decide_eq_true c3
    clear c3
    by_cases c4 : 0 ≤ x9_1
    ·rw [if_pos c4] at H
     have c4b0 : decide (0 ≤ x9_1) = true := decide_eq_true c4
     clear c4
     by_cases c5 : x9_1 < (l0.length : Int)
     ·rw [if_pos c5] at H
      have c5b0 : decide (x9_1 < (l0.length : Int)) = true := decide_eq_true c5
      clear c5
      by_cases c6 : (rd l0 x9_1) < 0
      ·rw [if_pos c6] at H
       have c6b0 : decide ((rd l0 x9_1) < 0) = true := decide_eq_true c6
       clear c6
       obtain rfl := Option.some.inj H
       have p462 : 0 ≤ (x9_1 : Int) := of_decide_eq_true (by first | (with_reducible assumption) | assumption)
       have q462 : x9_1 < (l0.length : Int) := of_decide_eq_true (by first | (with_reducible assumption) | assumption)
       obtain ⟨ad462, e462, hx462_0⟩ := Kd.qX HR0.out x9_1 p462 q462
       cases e462
       replace p462 := eq_true p462
       replace q462 := eq_true q462
       go_wp2
       go_ret
       exact ⟨by first | rfl | (simp; done) | (simp [*]; done), by repeat (first | exact qb.refl _ | apply qb.step)⟩
      ·rw [if_neg c6] at H
       have c6b0 : decide ((rd l0 x9_1) < 0) = false := decide_eq_false c6
       clear c6
       by_cases c7 : (rd l0 x9_1) ≥ a1
       ·rw [if_pos c7] at H
        have c7b0 : decide (a1 ≤ (rd l0 x9_1)) = true := decide_eq_true c7
        clear c7
        obtain rfl := Option.some.inj H
        have p462 : 0 ≤ (x9_1 : Int) := of_decide_eq_true (by first | (with_reducible assumption) | assumption)
        have q462 : x9_1 < (l0.length : Int) := of_decide_eq_true (by first | (with_reducible assumption) | assumption)
        obtain ⟨ad462, e462, hx462_0⟩ := Kd.qX HR0.out x9_1 p462 q462
        cases e462
        replace p462 := eq_true p462
        replace q462 := eq_true q462
        go_wp2
        go_ret
        exact ⟨by first | rfl | (simp; done) | (simp [*]; done), by repeat (first | exact qb.refl _ | apply qb.step)⟩
       ·rw [if_neg c7] at H
        have c7b0 : decide (a1 ≤ (rd l0 x9_1)) = false := decide_eq_false c7
        clear c7
        by_cases c8 : x9_1 > 0
        ·rw [if_pos c8] at H
         have c8b0 : decide (0 < x9_1) = true := decide_eq_true c8
         clear c8
         obtain ⟨ji9, hji9⟩ : ∃ j_ : Int, (wrap64 (x9_1 - 1)) = j_ := ⟨_, rfl⟩
         replace H : (if 0 ≤ (ji9) then (if (ji9) < (l0.length : Int) then (if (rd l0 (ji9)) ≥ (rd l0 x9_1) then (some false) else (zH.l0 k1 l0 a1 l0 (l0.length : Int) (wrap64 (x9_1 + 1)))) else (none)) else (none)) = some r := by first | (rw [hji9] at H; exact H) | (simp only [hji9] at H ⊢; exact H)
         have hji9w : (IntKind.i64.wrap (x9_1 - 1)) = ji9 := (qh _).trans hji9
         by_cases c10 : 0 ≤ (ji9)
         ·rw [if_pos c10] at H
          have c10b0 : decide (0 ≤ (ji9)) = true := decide_eq_true c10
          clear c10
          by_cases c11 : (ji9) < (l0.length : Int)
          ·rw [if_pos c11] at H
           have c11b0 : decide ((ji9) < (l0.length : Int)) = true := decide_eq_true c11
           clear c11
           by_cases c12 : (rd l0 (ji9)) ≥ (rd l0 x9_1)
           ·rw [if_pos c12] at H
            have c12b0 : decide ((rd l0 x9_1) ≤ (rd l0 (ji9))) = true := decide_eq_true c12
            clear c12
            obtain rfl := Option.some.inj H
            have p462 : 0 ≤ (x9_1 : Int) := of_decide_eq_true (by first | (with_reducible assumption) | assumption)
            have q462 : x9_1 < (l0.length : Int) := of_decide_eq_true (by first | (with_reducible assumption) | assumption)
            obtain ⟨ad462, e462, hx462_0⟩ := Kd.qX HR0.out x9_1 p462 q462
            cases e462
            replace p462 := eq_true p462
            replace q462 := eq_true q462
            have p463 : 0 ≤ ((ji9) : Int) := of_decide_eq_true (by first | (with_reducible assumption) | assumption)
            have q463 : (ji9) < (l0.length : Int) := of_decide_eq_true (by first | (with_reducible assumption) | assumption)
            obtain ⟨ad463, e463, hx463_0⟩ := Kd.qX HR0.out (ji9) p463 q463
            obtain rfl : ad462 = ad463 := (by injection e463)
            replace p463 := eq_true p463
            replace q463 := eq_true q463
            go_wp2
            go_ret
            exact ⟨by first | rfl | (simp; done) | (simp only [← hji9] <;> (first | rfl | simp)) | (simp [*]; done), by repeat (first | exact qb.refl _ | apply qb.step)⟩
           ·rw [if_neg c12] at H
            have c12b0 : decide ((rd l0 x9_1) ≤ (rd l0 (ji9))) = false := decide_eq_false c12
            clear c12
            have H' := za.mk H
            clear H
            have p462 : 0 ≤ (x9_1 : Int) := of_decide_eq_true (by first | (with_reducible assumption) | assumption)
            have q462 : x9_1 < (l0.length : Int) := of_decide_eq_true (by first | (with_reducible assumption) | assumption)
            obtain ⟨ad462, e462, hx462_0⟩ := Kd.qX HR0.out x9_1 p462 q462
            cases e462
            replace p462 := eq_true p462
            replace q462 := eq_true q462
            have p463 : 0 ≤ ((ji9) : Int) := of_decide_eq_true (by first | (with_reducible assumption) | assumption)
            have q463 : (ji9) < (l0.length : Int) := of_decide_eq_true (by first | (with_reducible assumption) | assumption)
            obtain ⟨ad463, e463, hx463_0⟩ := Kd.qX HR0.out (ji9) p463 q463
            obtain rfl : ad462 = ad463 := (by injection e463)
            replace p463 := eq_true p463
            replace q463 := eq_true q463
            go_wp2
            go_roundg k1
            case measure => have := HK1.out; omega
            case rel => exact ⟨(wrap64 (x9_1 + 1)), (by first | rfl | (simp; done) | (simp [*]; done)), H', ⟨by have := HK1.out; omega⟩, by repeat (first | exact qb.refl _ | apply qb.step)⟩
          ·rw [if_neg c11] at H
           exact absurd H (by simp)
         ·rw [if_neg c10] at H
          exact absurd H (by simp)
        ·rw [if_neg c8] at H
         have c8b0 : decide (0 < x9_1) = false := decide_eq_false c8
         clear c8
         have H' := za.mk H
         clear H
         have p462 : 0 ≤ (x9_1 : Int) := of_decide_eq_true (by first | (with_reducible assumption) | assumption)
         have q462 : x9_1 < (l0.length : Int) := of_decide_eq_true (by first | (with_reducible assumption) | assumption)
         obtain ⟨ad462, e462, hx462_0⟩ := Kd.qX HR0.out x9_1 p462 q462
         cases e462
         replace p462 := eq_true p462
         replace q462 := eq_true q462
         go_wp2
         go_roundg k1
         case measure => have := HK1.out; omega
         case rel => exact ⟨(wrap64 (x9_1 + 1)), (by first | rfl | (simp; done) | (simp [*]; done)), H', ⟨by have := HK1.out; omega⟩, by repeat (first | exact qb.refl _ | apply qb.step)⟩
     ·rw [if_neg c5] at H
      exact absurd H (by simp)
    ·rw [if_neg c4] at H
     exact absurd H (by simp)
   ·rw [if_neg c3] at H
    have c3b0 : decide (x9_1 < (l0.length : Int)) = false := decide_eq_false c3
    clear c3
    obtain rfl := Option.some.inj H
    go_wp2
    go_ret
    exact ⟨by first | rfl | (simp; done) | (simp [*]; done), by repeat (first | exact qb.refl _ | apply qb.step)⟩
end Go.Proofs.Ytebehdjjkpffjaa.QPlans
end
section
namespace Go.Proofs.Ytebehdjjkpffjaa.QPlans
open Go.RowKit Go.Proofs.YtebehdjjkpffjaaW.PrintWords Go.Proofs.YtebehdjjkpffjaaW.PrintLast Go.Proofs.YtebehdjjkpffjaaW.PrintMore
attribute [local go_sem] ZT ZW Ql Qm ZI ZH ZV ZR
set_option linter.unusedVariables false
set_option linter.unusedSimpArgs false
mutual
def zy.j0 : Nat → Int → Bool → Int → List Int → List Int → Option (Int)
 | 0, _, _, _, _, _ => none
 | k + 1, x1, x13, x465000, x465001, x465002 => if x13 = true then (some 1) else (if (x465001.length : Int) = x1 then ((zH.f k x465002 x1).bind fun t465 => (zy.j1 k (!t465) x465000 x465001 x465002)) else (zy.j1 k true x465000 x465001 x465002))
def zy.j1 : Nat → Bool → Int → List Int → List Int → Option (Int)
 | 0, _, _, _, _ => none
 | k + 1, x25, x465000, x465001, x465002 => if x25 = true then (some 4) else (zy.l0 k 0 x465000 x465001 x465002)
def zy.l0 : Nat → Int → Int → List Int → List Int → Option (Int)
 | 0, _, _, _, _ => none
 | k + 1, x5, x465000, x465001, x465002 => if x5 < (x465001.length : Int) then (if 0 ≤ x5 then (if (rd x465001 x5) < 0 then (some 30) else (if (rd x465001 x5) ≥ x465000 then (some 30) else (zy.l0 k (wrap64 (x5 + 1)) x465000 x465001 x465002))) else (none)) else (some 0)
end
def zy.f (k : Nat) (a0_0 : Int) (l0_1 : List Int) (l0_2 : List Int) (a1 : Int) : Option (Int) := if a0_0 < 1 then (zy.j0 k a1 true a0_0 l0_1 l0_2) else (zy.j0 k a1 (decide (a0_0 > 8)) a0_0 l0_1 l0_2)
theorem zy.qV : ∀ k, (∀ y0 y1 y2 y3 y4, LeO (zy.j0 k y0 y1 y2 y3 y4) (zy.j0 (k + 1) y0 y1 y2 y3 y4)) ∧ (∀ y0 y1 y2 y3, LeO (zy.j1 k y0 y1 y2 y3) (zy.j1 (k + 1) y0 y1 y2 y3)) ∧ (∀ y0 y1 y2 y3, LeO (zy.l0 k y0 y1 y2 y3) (zy.l0 (k + 1) y0 y1 y2 y3))
 | 0 => ⟨fun _ _ _ _ _ r h => by simp [zy.j0] at h, fun _ _ _ _ r h => by simp [zy.j1] at h, fun _ _ _ _ r h => by simp [zy.l0] at h⟩
 | k + 1 => by
  obtain ⟨ih0, ih1, ih2⟩ := zy.qV k
  refine ⟨?_, ?_, ?_⟩
  ·intro y0 y1 y2 y3 y4
   unfold zy.j0
   repeat' first
   | (with_reducible exact ih0 _ _ _ _ _)
   | (with_reducible exact ih1 _ _ _ _)
   | (with_reducible exact ih2 _ _ _ _)
   | (with_reducible exact zH.mono _ _ _)
   | (with_reducible exact LeO.refl _)
   | (with_reducible exact LeO.none _)
   | (with_reducible refine LeO.ite ?_ ?_)
   | (with_reducible refine LeO.bind ?_ (fun _ => ?_))
   | exact ih0 _ _ _ _ _
   | exact ih1 _ _ _ _
   | exact ih2 _ _ _ _
   | exact zH.mono _ _ _
   | exact LeO.none _
   | refine LeO.ite ?_ ?_
   | refine LeO.bind ?_ (fun _ => ?_)
  ·intro y0 y1 y2 y3
   unfold zy.j1
   repeat' first
   | (with_reducible exact ih0 _ _ _ _ _)
   | (with_reducible exact ih1 _ _ _ _)
   | (with_reducible exact ih2 _ _ _ _)
   | (with_reducible exact zH.mono _ _ _)
   | (with_reducible exact LeO.refl _)
   | (with_reducible exact LeO.none _)
   | (with_reducible refine LeO.ite ?_ ?_)
   | (with_reducible refine LeO.bind ?_ (fun _ => ?_))
   | exact ih0 _ _ _ _ _
   | exact ih1 _ _ _ _
   | exact ih2 _ _ _ _
   | exact zH.mono _ _ _
   | exact LeO.none _
   | refine LeO.ite ?_ ?_
   | refine LeO.bind ?_ (fun _ => ?_)
  ·intro y0 y1 y2 y3
   unfold zy.l0
   repeat' first
   | (with_reducible exact ih0 _ _ _ _ _)
   | (with_reducible exact ih1 _ _ _ _)
   | (with_reducible exact ih2 _ _ _ _)
   | (with_reducible exact zH.mono _ _ _)
   | (with_reducible exact LeO.refl _)
   | (with_reducible exact LeO.none _)
   | (with_reducible refine LeO.ite ?_ ?_)
   | (with_reducible refine LeO.bind ?_ (fun _ => ?_))
   | exact ih0 _ _ _ _ _
   | exact ih1 _ _ _ _
   | exact ih2 _ _ _ _
   | exact zH.mono _ _ _
   | exact LeO.none _
   | refine LeO.ite ?_ ?_
   | refine LeO.bind ?_ (fun _ => ?_)
theorem zy.mono : ∀ a0 a1 a2 a3 k, LeO (zy.f k a0 a1 a2 a3) (zy.f (k + 1) a0 a1 a2 a3) := by
 intro a0 a1 a2 a3 k
 obtain ⟨ih0, ih1, ih2⟩ := zy.qV k
 unfold zy.f
 repeat' first
  | (with_reducible exact ih0 _ _ _ _ _)
  | (with_reducible exact ih1 _ _ _ _)
  | (with_reducible exact ih2 _ _ _ _)
  | (with_reducible exact zH.mono _ _ _)
  | (with_reducible exact LeO.refl _)
  | (with_reducible exact LeO.none _)
  | (with_reducible refine LeO.ite ?_ ?_)
  | (with_reducible refine LeO.bind ?_ (fun _ => ?_))
  | exact ih0 _ _ _ _ _
  | exact ih1 _ _ _ _
  | exact ih2 _ _ _ _
  | exact zH.mono _ _ _
  | exact LeO.none _
  | refine LeO.ite ?_ ?_
  | refine LeO.bind ?_ (fun _ => ?_)
set_option maxHeartbeats 8000000 in
set_option maxRecDepth 100000 in
theorem zy.calls (k : Nat) (a0_0 : Int) (A0_1 : Option Addr) (c0_1 : Nat) (l0_1 : List Int) (A0_2 : Option Addr) (c0_2 : Nat) (l0_2 : List Int) (a1 : Int) (r : Int) (w : World) (hr0_1 : Kd.C (Kd.int .i64) w A0_1 l0_1.length l0_1) (hc0_1 : l0_1.length ≤ c0_1) (hr0_2 : Kd.C (Kd.int .i64) w A0_2 l0_2.length l0_2) (hc0_2 : l0_2.length ≤ c0_2) (h : zy.f k a0_0 l0_1 l0_2 a1 = some r) :
  Calls Try.prog 16 #[.agg #[.int .i64 a0_0, .slice A0_1 l0_1.length c0_1, .slice A0_2 l0_2.length c0_2], .int .i64 a1] w fun e w' => e = .returned (.int .i64 r) ∧ Below w.heap.size w w' := by
 have hu32 := Try.underlying32
 have HR0_1 := za.mk hr0_1
 have HC0_1 := za.mk hc0_1
 clear hr0_1 hc0_1
 have HR0_2 := za.mk hr0_2
 have HC0_2 := za.mk hc0_2
 clear hr0_2 hc0_2
 have HB := za.mk (Below.refl w.heap.size w)
 have H : (if a0_0 < 1 then (zy.j0 k a1 true a0_0 l0_1 l0_2) else (zy.j0 k a1 (decide (a0_0 > 8)) a0_0 l0_1 l0_2)) = some r := h
 clear h
 have HC3 := za.mk H
 clear H
 go_enter Try.func16, Try.ntmps16
 go_upto_region 1 with (first | ((with_reducible refine qJ (N := 2) rfl ?_); refine qI ?hg (N := 2) ?hd (cs := #[.int .i64 a0_0, .slice A0_1 l0_1.length c0_1, .slice A0_2 l0_2.length c0_2]) (t := 32) ?hr ?_; (case hd => rfl); (case hg => rfl); (case hr => first | (go_simp; done) | (go_simp; rfl)); intro gb464 hg w4 hbox hb; have n0_ := za.mk (zT (by repeat (first | (with_reducible first | exact HB.out | apply zf | apply zb | apply zg) | exact HB.out)) hb); have n1_ := za.mk (hbox); have n2_ := za.mk ((by rw [hg]; exact (zB (by repeat (first | (with_reducible first | exact HB.out | apply zf | apply zb | apply zg) | exact HB.out))) : w.heap.size ≤ gb464)); have n3_ := za.mk ((by rw [hg]; exact (zB (by repeat (first | (with_reducible first | exact HB.out | apply zf | apply zb | apply zg) | exact HB.out))) : w.heap.size ≤ gb464)); clear HB; have HB := n0_; have BK464 := n1_; have GW464 := n2_; have GE464 := n3_; clear n0_ n1_ n2_ n3_; clear hb hbox hg))
 repeat (go_quiet (first | ((with_reducible refine qJ (N := 2) rfl ?_); refine qI ?hg (N := 2) ?hd (cs := #[.int .i64 a0_0, .slice A0_1 l0_1.length c0_1, .slice A0_2 l0_2.length c0_2]) (t := 32) ?hr ?_; (case hd => rfl); (case hg => rfl); (case hr => first | (go_simp; done) | (go_simp; rfl)); intro gb464 hg w4 hbox hb; have n0_ := za.mk (zT (by repeat (first | (with_reducible first | exact HB.out | apply zf | apply zb | apply zg) | exact HB.out)) hb); have n1_ := za.mk (hbox); have n2_ := za.mk ((by rw [hg]; exact (zB (by repeat (first | (with_reducible first | exact HB.out | apply zf | apply zb | apply zg) | exact HB.out))) : w.heap.size ≤ gb464)); have n3_ := za.mk ((by rw [hg]; exact (zB (by repeat (first | (with_reducible first | exact HB.out | apply zf | apply zb | apply zg) | exact HB.out))) : w.heap.size ≤ gb464)); clear HB; have HB := n0_; have BK464 := n1_; have GW464 := n2_; have GE464 := n3_; clear n0_ n1_ n2_ n3_; clear hb hbox hg)); go_upto_region 1 with (first | ((with_reducible refine qJ (N := 2) rfl ?_); refine qI ?hg (N := 2) ?hd (cs := #[.int .i64 a0_0, .slice A0_1 l0_1.length c0_1, .slice A0_2 l0_2.length c0_2]) (t := 32) ?hr ?_; (case hd => rfl); (case hg => rfl); (case hr => first | (go_simp; done) | (go_simp; rfl)); intro gb464 hg w4 hbox hb; have n0_ := za.mk (zT (by repeat (first | (with_reducible first | exact HB.out | apply zf | apply zb | apply zg) | exact HB.out)) hb); have n1_ := za.mk (hbox); have n2_ := za.mk ((by rw [hg]; exact (zB (by repeat (first | (with_reducible first | exact HB.out | apply zf | apply zb | apply zg) | exact HB.out))) : w.heap.size ≤ gb464)); have n3_ := za.mk ((by rw [hg]; exact (zB (by repeat (first | (with_reducible first | exact HB.out | apply zf | apply zb | apply zg) | exact HB.out))) : w.heap.size ≤ gb464)); clear HB; have HB := n0_; have BK464 := n1_; have GW464 := n2_; have GE464 := n3_; clear n0_ n1_ n2_ n3_; clear hb hbox hg)))
 (try simp only [Act.put, List.setIfInBounds_toArray, List.set_cons_zero, List.set_cons_succ])
 go_cut [13] (fun v13 wc => ∃ (kq : Nat) (x13_2 : Bool), v13 = .bool x13_2 ∧ za (zy.j0 kq a1 x13_2 a0_0 l0_1 l0_2 = some r) ∧ za (kq ≤ k) ∧ za (wc.heap[gb464]? = some (.cells #[.int .i64 a0_0, (.slice A0_1 l0_1.length c0_1), (.slice A0_2 l0_2.length c0_2)] 32 (0, 0))) ∧ za (Below w.heap.size w wc))
 case first =>
  have H := HC3.out
  clear HC3
  by_cases c5 : a0_0 < 1
  ·rw [if_pos c5] at H
   have c5b0 : decide (a0_0 < 1) = true := decide_eq_true c5
   clear c5
   (first | rw [c5b0] | (simp only [qh, qj]; rw [c5b0]) | skip)
   have H' := za.mk H
   clear H
   have hcz6_0 : w4.cell? ⟨gb464, 0, none⟩ = some (.int .i64 a0_0) := (ze BK464.out 0).trans rfl
   have hcz6_1 : w4.cell? ⟨gb464, 1, none⟩ = some (.slice A0_1 l0_1.length c0_1) := (ze BK464.out 1).trans rfl
   have hcz6_2 : w4.cell? ⟨gb464, 2, none⟩ = some (.slice A0_2 l0_2.length c0_2) := (ze BK464.out 2).trans rfl
   have hfz6_0 := zl BK464.out 0
   have hfz6_1 := zl BK464.out 1
   have hfz6_2 := zl BK464.out 2
   go_wp2
   repeat (go_quiet (fail); try go_wp2)
   go_meet
   case rel => exact ⟨_, (true), (by first | rfl | (simp; done) | (simp [*]; done)), H', ⟨by first | omega | exact Nat.le_refl _⟩, ⟨by (with_reducible repeat (first | refine zk ?_ _ | refine zm ?_ | refine zh ?_ _)); exact BK464.out⟩, ⟨by repeat (first | (with_reducible first | exact HB.out | apply zf | apply zb | apply zg | refine zi ?_ GE464.out) | exact HB.out)⟩⟩
  ·rw [if_neg c5] at H
   have c5b0 : decide (a0_0 < 1) = false := decide_eq_false c5
   clear c5
   (first | rw [c5b0] | (simp only [qh, qj]; rw [c5b0]) | skip)
   have H' := za.mk H
   clear H
   have hcz7_0 : w4.cell? ⟨gb464, 0, none⟩ = some (.int .i64 a0_0) := (ze BK464.out 0).trans rfl
   have hcz7_1 : w4.cell? ⟨gb464, 1, none⟩ = some (.slice A0_1 l0_1.length c0_1) := (ze BK464.out 1).trans rfl
   have hcz7_2 : w4.cell? ⟨gb464, 2, none⟩ = some (.slice A0_2 l0_2.length c0_2) := (ze BK464.out 2).trans rfl
   have hfz7_0 := zl BK464.out 0
   have hfz7_1 := zl BK464.out 1
   have hfz7_2 := zl BK464.out 2
   go_wp2
   repeat (go_quiet (fail); try go_wp2)
   go_meet
   case rel => exact ⟨_, (decide (a0_0 > 8)), (by first | rfl | (simp; done) | (simp [*]; done)), H', ⟨by first | omega | exact Nat.le_refl _⟩, ⟨by (with_reducible repeat (first | refine zk ?_ _ | refine zm ?_ | refine zh ?_ _)); exact BK464.out⟩, ⟨by repeat (first | (with_reducible first | exact HB.out | apply zf | apply zb | apply zg | refine zi ?_ GE464.out) | exact HB.out)⟩⟩
 case rest =>
  clear HC3
  try clear c1
  try clear p2
  try clear c5
  try clear c5b0
  try clear hcz6_0
  try clear hcz6_1
  try clear hcz6_2
  try clear hcz7_0
  try clear hcz7_1
  try clear hcz7_2
  try clear hfz6_0
  try clear hfz6_1
  try clear hfz6_2
  try clear hfz7_0
  try clear hfz7_1
  try clear hfz7_2
  obtain ⟨kq, x13_2, rfl, HA, HJ2, BK464, HB⟩ := hcut
  cases kq with
  | zero => exact absurd HA.out (by simp [zy.j0])
  | succ kj2 =>
   have H := HA.out
   clear HA
   simp only [zy.j0] at H
   by_cases c8 : x13_2 = true
   ·subst c8
    have H1 : (some 1) = some r := by rw [if_pos rfl] at H; exact H
    clear H
    have H := H1
    clear H1
    obtain rfl := Option.some.inj H
    go_wp2
    repeat (go_quiet (fail); try go_wp2)
    go_ret
    exact ⟨by first | rfl | (simp [zQ, zP] <;> rfl) | (simp [*, zQ, zP] <;> rfl), by repeat (first | (with_reducible first | exact HB.out | apply zf | apply zb | apply zg | refine zi ?_ GE464.out) | exact HB.out)⟩
   ·replace c8 := Bool.eq_false_iff.mpr c8
    subst c8
    have H1 : (if (l0_1.length : Int) = a1 then ((zH.f kj2 l0_2 a1).bind fun t465 => (zy.j1 kj2 (!t465) a0_0 l0_1 l0_2)) else (zy.j1 kj2 true a0_0 l0_1 l0_2)) = some r := by rw [if_neg (show ¬ (false = true) by decide)] at H; exact H
    clear H
    have H := H1
    clear H1
    have HC9 := za.mk H
    clear H
    go_upto_region 3 with (fail)
    repeat (go_quiet (fail); go_upto_region 3 with (fail))
    go_cut [25] (fun v25 wc => ∃ (kq : Nat) (x25_8 : Bool), v25 = .bool x25_8 ∧ za (zy.j1 kq x25_8 a0_0 l0_1 l0_2 = some r) ∧ za (kq ≤ kj2) ∧ za (wc.heap[gb464]? = some (.cells #[.int .i64 a0_0, (.slice A0_1 l0_1.length c0_1), (.slice A0_2 l0_2.length c0_2)] 32 (0, 0))) ∧ za (Below w.heap.size w wc))
    case first =>
     have H := HC9.out
     clear HC9
     by_cases c10 : (l0_1.length : Int) = a1
     ·rw [if_pos c10] at H
      have c10b0 : ((l0_1.length : Int) == a1) = true := beq_iff_eq.mpr c10
      have c10b1 : ((l0_1.length : Int) != a1) = false := bne_eq_false_iff_eq.mpr c10
      clear c10
      (first | rw [c10b0] | (simp only [qh, qj]; rw [c10b0]) | skip)
      replace H := Option.bind_eq_some_iff.mp H
      obtain ⟨t465, A110, H⟩ := H
      replace H : (zy.j1 kj2 (!t465) a0_0 l0_1 l0_2) = some r := H
      have A11 := za.mk A110
      clear A110
      have H' := za.mk H
      clear H
      have hcz12_0 : wc.cell? ⟨gb464, 0, none⟩ = some (.int .i64 a0_0) := (ze BK464.out 0).trans rfl
      have hcz12_1 : wc.cell? ⟨gb464, 1, none⟩ = some (.slice A0_1 l0_1.length c0_1) := (ze BK464.out 1).trans rfl
      have hcz12_2 : wc.cell? ⟨gb464, 2, none⟩ = some (.slice A0_2 l0_2.length c0_2) := (ze BK464.out 2).trans rfl
      have hfz12_0 := zl BK464.out 0
      have hfz12_1 := zl BK464.out 1
      have hfz12_2 := zl BK464.out 2
      go_wp2_with (first | (go_at_call 42; (with_reducible refine (zH.calls kj2 _ _ l0_2 a1 t465 _ ?side1 ?side2 A11.out).mono ?_); (case side1 => repeat (first | exact (Kd.qB HR0_2.out HB.out) | (with_reducible refine Kd.qA ?_ _) | (with_reducible refine Kd.qz ?_ _) | (with_reducible refine Kd.qF ?_))); (case side2 => exact HC0_2.out); rintro e w' ⟨rfl, ⟨nd, rfl⟩⟩; (try first | exact ⟨rfl, _, World.drewN_drewN _ _ _⟩ | exact ⟨rfl, _, Eq.trans (World.drewN_drewN _ _ _) (congrArg (World.drewN _) (Nat.add_assoc _ _ _))⟩)))
      repeat (go_quiet (first | (go_at_call 42; (with_reducible refine (zH.calls kj2 _ _ l0_2 a1 t465 _ ?side1 ?side2 A11.out).mono ?_); (case side1 => repeat (first | exact (Kd.qB HR0_2.out HB.out) | (with_reducible refine Kd.qA ?_ _) | (with_reducible refine Kd.qz ?_ _) | (with_reducible refine Kd.qF ?_))); (case side2 => exact HC0_2.out); rintro e w' ⟨rfl, ⟨nd, rfl⟩⟩; (try first | exact ⟨rfl, _, World.drewN_drewN _ _ _⟩ | exact ⟨rfl, _, Eq.trans (World.drewN_drewN _ _ _) (congrArg (World.drewN _) (Nat.add_assoc _ _ _))⟩))); try go_wp2_with (first | (go_at_call 42; (with_reducible refine (zH.calls kj2 _ _ l0_2 a1 t465 _ ?side1 ?side2 A11.out).mono ?_); (case side1 => repeat (first | exact (Kd.qB HR0_2.out HB.out) | (with_reducible refine Kd.qA ?_ _) | (with_reducible refine Kd.qz ?_ _) | (with_reducible refine Kd.qF ?_))); (case side2 => exact HC0_2.out); rintro e w' ⟨rfl, ⟨nd, rfl⟩⟩; (try first | exact ⟨rfl, _, World.drewN_drewN _ _ _⟩ | exact ⟨rfl, _, Eq.trans (World.drewN_drewN _ _ _) (congrArg (World.drewN _) (Nat.add_assoc _ _ _))⟩))))
      go_meet
      case rel => exact ⟨_, (!t465), (by first | rfl | (simp; done) | (simp [*]; done)), H', ⟨by have := HJ2.out; first | omega | exact Nat.le_refl _⟩, ⟨by (with_reducible repeat (first | refine zk ?_ _ | refine zm ?_ | refine zh ?_ _)); exact BK464.out⟩, ⟨by repeat (first | (with_reducible first | exact HB.out | apply zf | apply zb | apply zg | refine zi ?_ GE464.out) | exact HB.out)⟩⟩
     ·rw [if_neg c10] at H
      have c10b0 : ((l0_1.length : Int) == a1) = false := beq_eq_false_iff_ne.mpr c10
      have c10b1 : ((l0_1.length : Int) != a1) = true := bne_iff_ne.mpr c10
      (first | rw [c10b0] | (simp only [qh, qj]; rw [c10b0]) | skip)
      have H' := za.mk H
      clear H
      have hcz13_0 : wc.cell? ⟨gb464, 0, none⟩ = some (.int .i64 a0_0) := (ze BK464.out 0).trans rfl
      have hcz13_1 : wc.cell? ⟨gb464, 1, none⟩ = some (.slice A0_1 l0_1.length c0_1) := (ze BK464.out 1).trans rfl
      have hcz13_2 : wc.cell? ⟨gb464, 2, none⟩ = some (.slice A0_2 l0_2.length c0_2) := (ze BK464.out 2).trans rfl
      have hfz13_0 := zl BK464.out 0
      have hfz13_1 := zl BK464.out 1
      have hfz13_2 := zl BK464.out 2
      go_wp2
      repeat (go_quiet (fail); try go_wp2)
      go_meet
      case rel => exact ⟨_, (true), (by first | rfl | (simp; done) | (simp [*]; done)), H', ⟨by have := HJ2.out; first | omega | exact Nat.le_refl _⟩, ⟨by (with_reducible repeat (first | refine zk ?_ _ | refine zm ?_ | refine zh ?_ _)); exact BK464.out⟩, ⟨by repeat (first | (with_reducible first | exact HB.out | apply zf | apply zb | apply zg | refine zi ?_ GE464.out) | exact HB.out)⟩⟩
    case rest =>
     clear HC9
     try clear c1
     try clear p2
     try clear c5
     try clear c5b0
     try clear c8
     try clear c10
     try clear c10b0
     try clear c10b1
     try clear hcz12_0
     try clear hcz12_1
     try clear hcz12_2
     try clear hcz13_0
     try clear hcz13_1
     try clear hcz13_2
     try clear hcz6_0
     try clear hcz6_1
     try clear hcz6_2
     try clear hcz7_0
     try clear hcz7_1
     try clear hcz7_2
     try clear hfz12_0
     try clear hfz12_1
     try clear hfz12_2
     try clear hfz13_0
     try clear hfz13_1
     try clear hfz13_2
     try clear hfz6_0
     try clear hfz6_1
     try clear hfz6_2
     try clear hfz7_0
     try clear hfz7_1
     try clear hfz7_2
     try clear p2
     obtain ⟨kq, x25_8, rfl, HA, HJ8, BK464, HB⟩ := hcut
     cases kq with
     | zero => exact absurd HA.out (by simp [zy.j1])
     | succ kj8 =>
      have H := HA.out
      clear HA
      simp only [zy.j1] at H
      by_cases c14 : x25_8 = true
      ·subst c14
       have H1 : (some 4) = some r := by rw [if_pos rfl] at H; exact H
       clear H
       have H := H1
       clear H1
       obtain rfl := Option.some.inj H
       go_wp2
       repeat (go_quiet (fail); try go_wp2)
       go_ret
       exact ⟨by first | rfl | (simp [zQ, zP] <;> rfl) | (simp [*, zQ, zP] <;> rfl), by repeat (first | (with_reducible first | exact HB.out | apply zf | apply zb | apply zg | refine zi ?_ GE464.out) | exact HB.out)⟩
      ·replace c14 := Bool.eq_false_iff.mpr c14
       subst c14
       have H1 : (zy.l0 kj8 0 a0_0 l0_1 l0_2) = some r := by rw [if_neg (show ¬ (false = true) by decide)] at H; exact H
       clear H
       have H := H1
       clear H1
       have H' := za.mk H
       clear H
       go_wp2
       repeat (go_quiet (fail); try go_wp2)
       go_loopg [5] kj8 (fun kq v5 w' => ∃ (x5_3 : Int), v5 = .int .i64 x5_3 ∧ za (zy.l0 kq x5_3 a0_0 l0_1 l0_2 = some r) ∧ za (kq ≤ kj8) ∧ za (w'.heap[gb464]? = some (.cells #[.int .i64 a0_0, (.slice A0_1 l0_1.length c0_1), (.slice A0_2 l0_2.length c0_2)] 32 (0, 0))) ∧ za (Below w.heap.size w w'))
       case atStart => exact ⟨(0), (by first | rfl | (simp; done) | (simp [*]; done)), H', ⟨Nat.le_refl _⟩, ⟨by (with_reducible repeat (first | refine zk ?_ _ | refine zm ?_ | refine zh ?_ _)); exact BK464.out⟩, ⟨by repeat (first | (with_reducible first | exact HB.out | apply zf | apply zb | apply zg | refine zi ?_ GE464.out) | exact HB.out)⟩⟩
       case round =>
        clear H'
        try clear c1
        try clear p2
        try clear c5
        try clear c5b0
        try clear c8
        try clear c10
        try clear c10b0
        try clear c10b1
        try clear c14
        try clear hcz12_0
        try clear hcz12_1
        try clear hcz12_2
        try clear hcz13_0
        try clear hcz13_1
        try clear hcz13_2
        try clear hcz6_0
        try clear hcz6_1
        try clear hcz6_2
        try clear hcz7_0
        try clear hcz7_1
        try clear hcz7_2
        try clear hfz12_0
        try clear hfz12_1
        try clear hfz12_2
        try clear hfz13_0
        try clear hfz13_1
        try clear hfz13_2
        try clear hfz6_0
        try clear hfz6_1
        try clear hfz6_2
        try clear hfz7_0
        try clear hfz7_1
        try clear hfz7_2
        try clear p2
        obtain ⟨x5_3, rfl, HA, HK3, BK464, HB⟩ := hrel
        cases gk with
        | zero => exact absurd HA.out (by simp [zy.l0])
        | succ k3 =>
         have H := HA.out
         clear HA
         simp only [zy.l0] at H
         by_cases c15 : x5_3 < (l0_1.length : Int)
         ·rw [if_pos c15] at H
          have c15b0 : decide (x5_3 < (l0_1.length : Int)) = true := decide_eq_true c15
          clear c15
          by_cases c16 : 0 ≤ x5_3
          ·rw [if_pos c16] at H
           have c16b0 : decide (0 ≤ x5_3) = true := decide_eq_true c16
           clear c16
           by_cases c17 : (rd l0_1 x5_3) < 0
           ·rw [if_pos c17] at H
            have c17b0 : decide ((rd l0_1 x5_3) < 0) = true := decide_eq_true c17
            clear c17
            obtain rfl := Option.some.inj H
            have hcz18_0 : wr.cell? ⟨gb464, 0, none⟩ = some (.int .i64 a0_0) := (ze BK464.out 0).trans rfl
            have hcz18_1 : wr.cell? ⟨gb464, 1, none⟩ = some (.slice A0_1 l0_1.length c0_1) := (ze BK464.out 1).trans rfl
            have hcz18_2 : wr.cell? ⟨gb464, 2, none⟩ = some (.slice A0_2 l0_2.length c0_2) := (ze BK464.out 2).trans rfl
            have hfz18_0 := zl BK464.out 0
            have hfz18_1 := zl BK464.out 1
            have hfz18_2 := zl BK464.out 2
            have p466 : 0 ≤ (x5_3 : Int) := of_decide_eq_true (by first | (with_reducible assumption) | assumption)
            have q466 : x5_3 < (l0_1.length : Int) := of_decide_eq_true (by first | (with_reducible assumption) | assumption)
            obtain ⟨ad466, e466, hx466_0⟩ := Kd.qX HR0_1.out x5_3 p466 q466
            cases e466
            replace hx466_0 := (HB.out.cell (World.block_lt_of_cell? w _ hx466_0)).trans hx466_0
            replace p466 := eq_true p466
            replace q466 := eq_true q466
            go_wp2
            repeat (go_quiet (fail); try go_wp2)
            go_ret
            exact ⟨by first | rfl | (simp [zQ, zP] <;> rfl) | (simp [*, zQ, zP] <;> rfl), by repeat (first | (with_reducible first | exact HB.out | apply zf | apply zb | apply zg | refine zi ?_ GE464.out) | exact HB.out)⟩
           ·rw [if_neg c17] at H
            have c17b0 : decide ((rd l0_1 x5_3) < 0) = false := decide_eq_false c17
            clear c17
            by_cases c19 : (rd l0_1 x5_3) ≥ a0_0
            ·rw [if_pos c19] at H
             have c19b0 : decide (a0_0 ≤ (rd l0_1 x5_3)) = true := decide_eq_true c19
             clear c19
             obtain rfl := Option.some.inj H
             have hcz20_0 : wr.cell? ⟨gb464, 0, none⟩ = some (.int .i64 a0_0) := (ze BK464.out 0).trans rfl
             have hcz20_1 : wr.cell? ⟨gb464, 1, none⟩ = some (.slice A0_1 l0_1.length c0_1) := (ze BK464.out 1).trans rfl
             have hcz20_2 : wr.cell? ⟨gb464, 2, none⟩ = some (.slice A0_2 l0_2.length c0_2) := (ze BK464.out 2).trans rfl
             have hfz20_0 := zl BK464.out 0
             have hfz20_1 := zl BK464.out 1
             have hfz20_2 := zl BK464.out 2
             have p466 : 0 ≤ (x5_3 : Int) := of_decide_eq_true (by first | (with_reducible assumption) | assumption)
             have q466 : x5_3 < (l0_1.length : Int) := of_decide_eq_true (by first | (with_reducible assumption) | assumption)
             obtain ⟨ad466, e466, hx466_0⟩ := Kd.qX HR0_1.out x5_3 p466 q466
             cases e466
             replace hx466_0 := (HB.out.cell (World.block_lt_of_cell? w _ hx466_0)).trans hx466_0
             replace p466 := eq_true p466
             replace q466 := eq_true q466
             have p467 : 0 ≤ (x5_3 : Int) := of_decide_eq_true (by first | (with_reducible assumption) | assumption)
             have q467 : x5_3 < (l0_1.length : Int) := of_decide_eq_true (by first | (with_reducible assumption) | assumption)
             obtain ⟨ad467, e467, hx467_0⟩ := Kd.qX HR0_1.out x5_3 p467 q467
             obtain rfl : ad466 = ad467 := (by injection e467)
             replace hx467_0 := (HB.out.cell (World.block_lt_of_cell? w _ hx467_0)).trans hx467_0
             replace p467 := eq_true p467
             replace q467 := eq_true q467
             go_wp2
             repeat (go_quiet (fail); try go_wp2)
             go_ret
             exact ⟨by first | rfl | (simp [zQ, zP] <;> rfl) | (simp [*, zQ, zP] <;> rfl), by repeat (first | (with_reducible first | exact HB.out | apply zf | apply zb | apply zg | refine zi ?_ GE464.out) | exact HB.out)⟩
            ·rw [if_neg c19] at H
             have c19b0 : decide (a0_0 ≤ (rd l0_1 x5_3)) = false := decide_eq_false c19
             clear c19
             have H' := za.mk H
             clear H
             have hcz21_0 : wr.cell? ⟨gb464, 0, none⟩ = some (.int .i64 a0_0) := (ze BK464.out 0).trans rfl
             have hcz21_1 : wr.cell? ⟨gb464, 1, none⟩ = some (.slice A0_1 l0_1.length c0_1) := (ze BK464.out 1).trans rfl
             have hcz21_2 : wr.cell? ⟨gb464, 2, none⟩ = some (.slice A0_2 l0_2.length c0_2) := (ze BK464.out 2).trans rfl
             have hfz21_0 := zl BK464.out 0
             have hfz21_1 := zl BK464.out 1
             have hfz21_2 := zl BK464.out 2
             have p466 : 0 ≤ (x5_3 : Int) := of_decide_eq_true (by first | (with_reducible assumption) | assumption)
             have q466 : x5_3 < (l0_1.length : Int) := of_decide_eq_true (by first | (with_reducible assumption) | assumption)
             obtain ⟨ad466, e466, hx466_0⟩ := Kd.qX HR0_1.out x5_3 p466 q466
             cases e466
             replace hx466_0 := (HB.out.cell (World.block_lt_of_cell? w _ hx466_0)).trans hx466_0
             replace p466 := eq_true p466
             replace q466 := eq_true q466
             have p467 : 0 ≤ (x5_3 : Int) := of_decide_eq_true (by first | (with_reducible assumption) | assumption)
             have q467 : x5_3 < (l0_1.length : Int) := of_decide_eq_true (by first | (with_reducible assumption) | assumption)
             obtain ⟨ad467, e467, hx467_0⟩ := Kd.qX HR0_1.out x5_3 p467 q467
             obtain rfl : ad466 = ad467 := (by injection e467)
             replace hx467_0 := (HB.out.cell (World.block_lt_of_cell? w _ hx467_0)).trans hx467_0
             replace p467 := eq_true p467
             replace q467 := eq_true q467
             go_wp2
             repeat (go_quiet (fail); try go_wp2)
             go_roundg k3
             case measure => have := HJ2.out; have := HJ8.out; have := HK3.out; omega
             case rel => exact ⟨(wrap64 (x5_3 + 1)), (by first | rfl | (simp; done) | (simp [*]; done)), H', ⟨by have := HJ2.out; have := HJ8.out; have := HK3.out; omega⟩, ⟨by (with_reducible repeat (first | refine zk ?_ _ | refine zm ?_ | refine zh ?_ _)); exact BK464.out⟩, ⟨by repeat (first | (with_reducible first | exact HB.out | apply zf | apply zb | apply zg | refine zi ?_ GE464.out) | exact HB.out)⟩⟩
          ·rw [if_neg c16] at H
           exact absurd H (by simp)
         ·rw [if_neg c15] at H
          have c15b0 : decide (x5_3 < (l0_1.length : Int)) = false := decide_eq_false c15
          clear c15
          obtain rfl := Option.some.inj H
          have hcz22_0 : wr.cell? ⟨gb464, 0, none⟩ = some (.int .i64 a0_0) := (ze BK464.out 0).trans rfl
          have hcz22_1 : wr.cell? ⟨gb464, 1, none⟩ = some (.slice A0_1 l0_1.length c0_1) := (ze BK464.out 1).trans rfl
          have hcz22_2 : wr.cell? ⟨gb464, 2, none⟩ = some (.slice A0_2 l0_2.length c0_2) := (ze BK464.out 2).trans rfl
          have hfz22_0 := zl BK464.out 0
          have hfz22_1 := zl BK464.out 1
          have hfz22_2 := zl BK464.out 2
          go_wp2
          repeat (go_quiet (fail); try go_wp2)
          go_ret
          exact ⟨by first | rfl | (simp [zQ, zP] <;> rfl) | (simp [*, zQ, zP] <;> rfl), by repeat (first | (with_reducible first | exact HB.out | apply zf | apply zb | apply zg | refine zi ?_ GE464.out) | exact HB.out)⟩
end Go.Proofs.Ytebehdjjkpffjaa.QPlans
end
section
namespace Go.Proofs.Ytebehdjjkpffjaa.QPlans
open Go.RowKit Go.Proofs.YtebehdjjkpffjaaW.PrintWords Go.Proofs.YtebehdjjkpffjaaW.PrintLast Go.Proofs.YtebehdjjkpffjaaW.PrintMore
attribute [local go_sem] ZT ZW Ql Qm ZI ZH ZV ZR
set_option linter.unusedVariables false
set_option linter.unusedSimpArgs false
mutual
def zo.l0 : Nat → Int → Int → Int → List (List (List (S56))) → Int → Int → Int → List (S66) → Int → List Int → List Int → Option (Bool)
 | 0, _, _, _, _, _, _, _, _, _, _, _ => none
 | k + 1, x7, x8, x9, x37, x38, x39, x479000, x479001, x488000, x488001, x488002 => if x39 < x38 then (if 0 ≤ x39 then (if x39 < (x37.length : Int) then (zo.l1 k x7 x8 x9 x37 x38 x39 (Zc x37 x39) ((Zc x37 x39).length : Int) 0 x479000 x479001 x488000 x488001 x488002) else (none)) else (none)) else (zo.l2 k x7 x8 x9 0 x479000 x479001 x488000 x488001 x488002)
def zo.l1 : Nat → Int → Int → Int → List (List (List (S56))) → Int → Int → List (List (S56)) → Int → Int → Int → List (S66) → Int → List Int → List Int → Option (Bool)
 | 0, _, _, _, _, _, _, _, _, _, _, _, _, _, _ => none
 | k + 1, x7, x8, x9, x37, x38, x39, x43, x44, x45, x479000, x479001, x488000, x488001, x488002 => if x45 < x44 then (if 0 ≤ x45 then (if x45 < (x43.length : Int) then (zo.l1 k x7 (wrap64 (x8 + ((rd_L9 x43 x45).length : Int))) x9 x37 x38 x39 x43 x44 (wrap64 (x45 + 1)) x479000 x479001 x488000 x488001 x488002) else (none)) else (none)) else (zo.l0 k x7 x8 x9 x37 x38 (wrap64 (x39 + 1)) x479000 x479001 x488000 x488001 x488002)
def zo.l2 : Nat → Int → Int → Int → Int → Int → List (S66) → Int → List Int → List Int → Option (Bool)
 | 0, _, _, _, _, _, _, _, _, _ => none
 | k + 1, x7, x8, x9, x14, x479000, x479001, x488000, x488001, x488002 => if x14 < x479000 then ((zA.f k x479000 x479001 x14).bind fun t511 => (zo.l3 k x7 x8 x9 x14 ([] : List Int) t511 (t511.length : Int) 0 x479000 x479001 x488000 x488001 x488002)) else (if x7 = 0 then (if x8 = x9 then ((zy.f k x488000 x488001 x488002 x479000).bind fun t509 => (if t509 = 0 then ((zU.f k).bind fun t510 => (some t510)) else (some false))) else (some false)) else (some false))
def zo.l3 : Nat → Int → Int → Int → Int → List Int → List Int → Int → Int → Int → List (S66) → Int → List Int → List Int → Option (Bool)
 | 0, _, _, _, _, _, _, _, _, _, _, _, _, _ => none
 | k + 1, x7, x8, x9, x14, x15, x63, x64, x65, x479000, x479001, x488000, x488001, x488002 => if x65 < x64 then (if 0 ≤ x65 then (if x65 < (x63.length : Int) then (if 0 ≤ (rd x63 x65) then (if (rd x63 x65) < (x488001.length : Int) then (if x15.length < 17592186044416 then (zo.l3 k x7 x8 x9 x14 (x15 ++ [rd x488001 (rd x63 x65)]) x63 x64 (wrap64 (x65 + 1)) x479000 x479001 x488000 x488001 x488002) else (none)) else (none)) else (none)) else (none)) else (none)) else (if 0 ≤ x14 then (if x14 < (x488001.length : Int) then ((zD.f k x15 (([rd x488001 x14] : List Int))).bind fun t523 => (zo.l2 k x7 x8 (wrap64 (x9 + (t523.length : Int))) (wrap64 (x14 + 1)) x479000 x479001 x488000 x488001 x488002)) else (none)) else (none))
end
def zo.f (k : Nat) (l0 : List Int) : Option (Bool) := (Zk.f l0).bind fun t468 => (if t468 = true then ((Zl.f l0).bind fun bt470 => ((zw.f k bt470.1 bt470.2 8).bind fun bt473 => ((qf.f k bt470.1 bt473.2.2 bt473.1).bind fun bt479 => ((qE.f bt473.1 bt473.2.1 bt479.1 bt479.2.1 bt479.2.2.1).bind fun bt488 => (zo.l0 k bt488.2.2.2.2.2.2.2 0 0 bt488.2.2.2.2.2.2.1 (bt488.2.2.2.2.2.2.1.length : Int) 0 bt473.1 bt473.2.1 bt479.1 bt479.2.1 bt479.2.2.1))))) else ((zU.f k).bind fun t469 => (some t469)))
theorem zo.qV : ∀ k, (∀ y0 y1 y2 y3 y4 y5 y6 y7 y8 y9 y10, LeO (zo.l0 k y0 y1 y2 y3 y4 y5 y6 y7 y8 y9 y10) (zo.l0 (k + 1) y0 y1 y2 y3 y4 y5 y6 y7 y8 y9 y10)) ∧ (∀ y0 y1 y2 y3 y4 y5 y6 y7 y8 y9 y10 y11 y12 y13, LeO (zo.l1 k y0 y1 y2 y3 y4 y5 y6 y7 y8 y9 y10 y11 y12 y13) (zo.l1 (k + 1) y0 y1 y2 y3 y4 y5 y6 y7 y8 y9 y10 y11 y12 y13)) ∧ (∀ y0 y1 y2 y3 y4 y5 y6 y7 y8, LeO (zo.l2 k y0 y1 y2 y3 y4 y5 y6 y7 y8) (zo.l2 (k + 1) y0 y1 y2 y3 y4 y5 y6 y7 y8)) ∧ (∀ y0 y1 y2 y3 y4 y5 y6 y7 y8 y9 y10 y11 y12, LeO (zo.l3 k y0 y1 y2 y3 y4 y5 y6 y7 y8 y9 y10 y11 y12) (zo.l3 (k + 1) y0 y1 y2 y3 y4 y5 y6 y7 y8 y9 y10 y11 y12))
 | 0 => ⟨fun _ _ _ _ _ _ _ _ _ _ _ r h => by simp [zo.l0] at h, fun _ _ _ _ _ _ _ _ _ _ _ _ _ _ r h => by simp [zo.l1] at h, fun _ _ _ _ _ _ _ _ _ r h => by simp [zo.l2] at h, fun _ _ _ _ _ _ _ _ _ _ _ _ _ r h => by simp [zo.l3] at h⟩
 | k + 1 => by
  obtain ⟨ih0, ih1, ih2, ih3⟩ := zo.qV k
  refine ⟨?_, ?_, ?_, ?_⟩
  ·intro y0 y1 y2 y3 y4 y5 y6 y7 y8 y9 y10
   unfold zo.l0
   repeat' first
   | (with_reducible exact ih0 _ _ _ _ _ _ _ _ _ _ _)
   | (with_reducible exact ih1 _ _ _ _ _ _ _ _ _ _ _ _ _ _)
   | (with_reducible exact ih2 _ _ _ _ _ _ _ _ _)
   | (with_reducible exact ih3 _ _ _ _ _ _ _ _ _ _ _ _ _)
   | (with_reducible exact qf.mono _ _ _ _)
   | (with_reducible exact zU.mono _)
   | (with_reducible exact zw.mono _ _ _ _)
   | (with_reducible exact zD.mono _ _ _)
   | (with_reducible exact zA.mono _ _ _ _)
   | (with_reducible exact zy.mono _ _ _ _ _)
   | (with_reducible exact LeO.refl _)
   | (with_reducible exact LeO.none _)
   | (with_reducible refine LeO.ite ?_ ?_)
   | (with_reducible refine LeO.bind ?_ (fun _ => ?_))
   | exact ih0 _ _ _ _ _ _ _ _ _ _ _
   | exact ih1 _ _ _ _ _ _ _ _ _ _ _ _ _ _
   | exact ih2 _ _ _ _ _ _ _ _ _
   | exact ih3 _ _ _ _ _ _ _ _ _ _ _ _ _
   | exact qf.mono _ _ _ _
   | exact zU.mono _
   | exact zw.mono _ _ _ _
   | exact zD.mono _ _ _
   | exact zA.mono _ _ _ _
   | exact zy.mono _ _ _ _ _
   | exact LeO.none _
   | refine LeO.ite ?_ ?_
   | refine LeO.bind ?_ (fun _ => ?_)
  ·intro y0 y1 y2 y3 y4 y5 y6 y7 y8 y9 y10 y11 y12 y13
   unfold zo.l1
   repeat' first
   | (with_reducible exact ih0 _ _ _ _ _ _ _ _ _ _ _)
   | (with_reducible exact ih1 _ _ _ _ _ _ _ _ _ _ _ _ _ _)
   | (with_reducible exact ih2 _ _ _ _ _ _ _ _ _)
   | (with_reducible exact ih3 _ _ _ _ _ _ _ _ _ _ _ _ _)
   | (with_reducible exact qf.mono _ _ _ _)
   | (with_reducible exact zU.mono _)
   | (with_reducible exact zw.mono _ _ _ _)
   | (with_reducible exact zD.mono _ _ _)
   | (with_reducible exact zA.mono _ _ _ _)
   | (with_reducible exact zy.mono _ _ _ _ _)
   | (with_reducible exact LeO.refl _)
   | (with_reducible exact LeO.none _)
   | (with_reducible refine LeO.ite ?_ ?_)
   | (with_reducible refine LeO.bind ?_ (fun _ => ?_))
   | exact ih0 _ _ _ _ _ _ _ _ _ _ _
   | exact ih1 _ _ _ _ _ _ _ _ _ _ _ _ _ _
   | exact ih2 _ _ _ _ _ _ _ _ _
   | exact ih3 _ _ _ _ _ _ _ _ _ _ _ _ _
   | exact qf.mono _ _ _ _
   | exact zU.mono _
   | exact zw.mono _ _ _ _
   | exact zD.mono _ _ _
   | exact zA.mono _ _ _ _
   | exact zy.mono _ _ _ _ _
   | exact LeO.none _
   | refine LeO.ite ?_ ?_
   | refine LeO.bind ?_ (fun _ => ?_)
  ·intro y0 y1 y2 y3 y4 y5 y6 y7 y8
   unfold zo.l2
   repeat' first
   | (with_reducible exact ih0 _ _ _ _ _ _ _ _ _ _ _)
   | (with_reducible exact ih1 _ _ _ _ _ _ _ _ _ _ _ _ _ _)
   | (with_reducible exact ih2 _ _ _ _ _ _ _ _ _)
   | (with_reducible exact ih3 _ _ _ _ _ _ _ _ _ _ _ _ _)
   | (with_reducible exact qf.mono _ _ _ _)
   | (with_reducible exact zU.mono _)
   | (with_reducible exact zw.mono _ _ _ _)
   | (with_reducible exact zD.mono _ _ _)
   | (with_reducible exact zA.mono _ _ _ _)
   | (with_reducible exact zy.mono _ _ _ _ _)
   | (with_reducible exact LeO.refl _)
   | (with_reducible exact LeO.none _)
   | (with_reducible refine LeO.ite ?_ ?_)
   | (with_reducible refine LeO.bind ?_ (fun _ => ?_))
   | exact ih0 _ _ _ _ _ _ _ _ _ _ _
   | exact ih1 _ _ _ _ _ _ _ _ _ _ _ _ _ _
   | exact ih2 _ _ _ _ _ _ _ _ _
   | exact ih3 _ _ _ _ _ _ _ _ _ _ _ _ _
   | exact qf.mono _ _ _ _
   | exact zU.mono _
   | exact zw.mono _ _ _ _
   | exact zD.mono _ _ _
   | exact zA.mono _ _ _ _
   | exact zy.mono _ _ _ _ _
   | exact LeO.none _
   | refine LeO.ite ?_ ?_
   | refine LeO.bind ?_ (fun _ => ?_)
  ·intro y0 y1 y2 y3 y4 y5 y6 y7 y8 y9 y10 y11 y12
   unfold zo.l3
   repeat' first
   | (with_reducible exact ih0 _ _ _ _ _ _ _ _ _ _ _)
   | (with_reducible exact ih1 _ _ _ _ _ _ _ _ _ _ _ _ _ _)
   | (with_reducible exact ih2 _ _ _ _ _ _ _ _ _)
   | (with_reducible exact ih3 _ _ _ _ _ _ _ _ _ _ _ _ _)
   | (with_reducible exact qf.mono _ _ _ _)
   | (with_reducible exact zU.mono _)
   | (with_reducible exact zw.mono _ _ _ _)
   | (with_reducible exact zD.mono _ _ _)
   | (with_reducible exact zA.mono _ _ _ _)
   | (with_reducible exact zy.mono _ _ _ _ _)
   | (with_reducible exact LeO.refl _)
   | (with_reducible exact LeO.none _)
   | (with_reducible refine LeO.ite ?_ ?_)
   | (with_reducible refine LeO.bind ?_ (fun _ => ?_))
   | exact ih0 _ _ _ _ _ _ _ _ _ _ _
   | exact ih1 _ _ _ _ _ _ _ _ _ _ _ _ _ _
   | exact ih2 _ _ _ _ _ _ _ _ _
   | exact ih3 _ _ _ _ _ _ _ _ _ _ _ _ _
   | exact qf.mono _ _ _ _
   | exact zU.mono _
   | exact zw.mono _ _ _ _
   | exact zD.mono _ _ _
   | exact zA.mono _ _ _ _
   | exact zy.mono _ _ _ _ _
   | exact LeO.none _
   | refine LeO.ite ?_ ?_
   | refine LeO.bind ?_ (fun _ => ?_)
theorem zo.mono : ∀ a0 k, LeO (zo.f k a0) (zo.f (k + 1) a0) := by
 intro a0 k
 obtain ⟨ih0, ih1, ih2, ih3⟩ := zo.qV k
 unfold zo.f
 repeat' first
  | (with_reducible exact ih0 _ _ _ _ _ _ _ _ _ _ _)
  | (with_reducible exact ih1 _ _ _ _ _ _ _ _ _ _ _ _ _ _)
  | (with_reducible exact ih2 _ _ _ _ _ _ _ _ _)
  | (with_reducible exact ih3 _ _ _ _ _ _ _ _ _ _ _ _ _)
  | (with_reducible exact qf.mono _ _ _ _)
  | (with_reducible exact zU.mono _)
  | (with_reducible exact zw.mono _ _ _ _)
  | (with_reducible exact zD.mono _ _ _)
  | (with_reducible exact zA.mono _ _ _ _)
  | (with_reducible exact zy.mono _ _ _ _ _)
  | (with_reducible exact LeO.refl _)
  | (with_reducible exact LeO.none _)
  | (with_reducible refine LeO.ite ?_ ?_)
  | (with_reducible refine LeO.bind ?_ (fun _ => ?_))
  | exact ih0 _ _ _ _ _ _ _ _ _ _ _
  | exact ih1 _ _ _ _ _ _ _ _ _ _ _ _ _ _
  | exact ih2 _ _ _ _ _ _ _ _ _
  | exact ih3 _ _ _ _ _ _ _ _ _ _ _ _ _
  | exact qf.mono _ _ _ _
  | exact zU.mono _
  | exact zw.mono _ _ _ _
  | exact zD.mono _ _ _
  | exact zA.mono _ _ _ _
  | exact zy.mono _ _ _ _ _
  | exact LeO.none _
  | refine LeO.ite ?_ ?_
  | refine LeO.bind ?_ (fun _ => ?_)
set_option maxHeartbeats 8000000 in
set_option maxRecDepth 100000 in
theorem zo.calls (k : Nat) (A0 : Option Addr) (c0 : Nat) (l0 : List Int) (r : Bool) (w : World) (hr0 : Kd.C (Kd.int .i64) w A0 l0.length l0) (hc0 : l0.length ≤ c0) (h : zo.f k l0 = some r) :
  Calls Try.prog 3 #[.slice A0 l0.length c0] w fun e w' => e = .returned (.bool r) ∧ Below w.heap.size w w' := by
 have hu29 := Try.underlying29
 have hu32 := Try.underlying32
 have hu37 := Try.underlying37
 have HR0 := za.mk hr0
 have HC0 := za.mk hc0
 clear hr0 hc0
 have HB := za.mk (Below.refl w.heap.size w)
 have H : ((Zk.f l0).bind fun t468 => (if t468 = true then ((Zl.f l0).bind fun bt470 => ((zw.f k bt470.1 bt470.2 8).bind fun bt473 => ((qf.f k bt470.1 bt473.2.2 bt473.1).bind fun bt479 => ((qE.f bt473.1 bt473.2.1 bt479.1 bt479.2.1 bt479.2.2.1).bind fun bt488 => (zo.l0 k bt488.2.2.2.2.2.2.2 0 0 bt488.2.2.2.2.2.2.1 (bt488.2.2.2.2.2.2.1.length : Int) 0 bt473.1 bt473.2.1 bt479.1 bt479.2.1 bt479.2.2.1))))) else ((zU.f k).bind fun t469 => (some t469)))) = some r := h
 clear h
 replace H := Option.bind_eq_some_iff.mp H
 obtain ⟨t468, A20, H⟩ := H
 replace H : (if t468 = true then ((Zl.f l0).bind fun bt470 => ((zw.f k bt470.1 bt470.2 8).bind fun bt473 => ((qf.f k bt470.1 bt473.2.2 bt473.1).bind fun bt479 => ((qE.f bt473.1 bt473.2.1 bt479.1 bt479.2.1 bt479.2.2.1).bind fun bt488 => (zo.l0 k bt488.2.2.2.2.2.2.2 0 0 bt488.2.2.2.2.2.2.1 (bt488.2.2.2.2.2.2.1.length : Int) 0 bt473.1 bt473.2.1 bt479.1 bt479.2.1 bt479.2.2.1))))) else ((zU.f k).bind fun t469 => (some t469))) = some r := H
 have A2 := za.mk A20
 clear A20
 by_cases c3 : t468 = true
 ·subst c3
  have H1 : ((Zl.f l0).bind fun bt470 => ((zw.f k bt470.1 bt470.2 8).bind fun bt473 => ((qf.f k bt470.1 bt473.2.2 bt473.1).bind fun bt479 => ((qE.f bt473.1 bt473.2.1 bt479.1 bt479.2.1 bt479.2.2.1).bind fun bt488 => (zo.l0 k bt488.2.2.2.2.2.2.2 0 0 bt488.2.2.2.2.2.2.1 (bt488.2.2.2.2.2.2.1.length : Int) 0 bt473.1 bt473.2.1 bt479.1 bt479.2.1 bt479.2.2.1))))) = some r := by rw [if_pos rfl] at H; exact H
  clear H
  have H := H1
  clear H1
  replace H := Option.bind_eq_some_iff.mp H
  obtain ⟨⟨t470, t471⟩, A40, H⟩ := H
  replace H : ((zw.f k t470 t471 8).bind fun bt473 => ((qf.f k t470 bt473.2.2 bt473.1).bind fun bt479 => ((qE.f bt473.1 bt473.2.1 bt479.1 bt479.2.1 bt479.2.2.1).bind fun bt488 => (zo.l0 k bt488.2.2.2.2.2.2.2 0 0 bt488.2.2.2.2.2.2.1 (bt488.2.2.2.2.2.2.1.length : Int) 0 bt473.1 bt473.2.1 bt479.1 bt479.2.1 bt479.2.2.1)))) = some r := H
  have A4 := za.mk A40
  clear A40
  replace H := Option.bind_eq_some_iff.mp H
  obtain ⟨⟨t473, t474, t477⟩, A50, H⟩ := H
  replace H : ((qf.f k t470 t477 t473).bind fun bt479 => ((qE.f t473 t474 bt479.1 bt479.2.1 bt479.2.2.1).bind fun bt488 => (zo.l0 k bt488.2.2.2.2.2.2.2 0 0 bt488.2.2.2.2.2.2.1 (bt488.2.2.2.2.2.2.1.length : Int) 0 t473 t474 bt479.1 bt479.2.1 bt479.2.2.1))) = some r := H
  have A5 := za.mk A50
  clear A50
  replace H := Option.bind_eq_some_iff.mp H
  obtain ⟨⟨t479, t480, t483, t486⟩, A60, H⟩ := H
  replace H : ((qE.f t473 t474 t479 t480 t483).bind fun bt488 => (zo.l0 k bt488.2.2.2.2.2.2.2 0 0 bt488.2.2.2.2.2.2.1 (bt488.2.2.2.2.2.2.1.length : Int) 0 t473 t474 t479 t480 t483)) = some r := H
  have A6 := za.mk A60
  clear A60
  replace H := Option.bind_eq_some_iff.mp H
  obtain ⟨⟨t488, t489, t492, t493, t496, t499, t502, t505⟩, A70, H⟩ := H
  replace H : (zo.l0 k t505 0 0 t502 (t502.length : Int) 0 t473 t474 t479 t480 t483) = some r := H
  have A7 := za.mk A70
  clear A70
  have H' := za.mk H
  clear H
  go_enter Try.func3, Try.ntmps3
  go_wp2_with (first | ((with_reducible refine qc (f := 8) rfl ?_); refine qU (some 19) rfl rfl Try.func8 (by kernel_rfl) rfl #[.slice A0 l0.length c0] rfl (by (try simp only [List.map_toArray, List.map_cons, List.map_nil]); first | done | rfl | (simp only [List.length_drop, List.length_take]; rfl)) ?_; (with_reducible refine (Zk.calls _ _ l0 true _ ?side1 ?side2 A2.out).mono ?_); (case side1 => repeat (first | exact HR0.out | (with_reducible refine Kd.qA ?_ _) | (with_reducible refine Kd.qz ?_ _) | (with_reducible refine Kd.qF ?_))); (case side2 => exact HC0.out); rintro e w' ⟨rfl, ⟨nd, rfl⟩⟩; refine ⟨_, rfl, ?_⟩) | ((with_reducible refine qc (f := 10) rfl ?_); refine qU (some 23) rfl rfl Try.func10 (by kernel_rfl) rfl #[.slice A0 l0.length c0] rfl (by (try simp only [List.map_toArray, List.map_cons, List.map_nil]); first | done | rfl | (simp only [List.length_drop, List.length_take]; rfl)) ?_; (with_reducible refine (Zl.calls _ _ l0 t470 t471 w _ ?side1 ?side2 ?side3 A4.out).mono ?_); (case side1 => repeat (first | (with_reducible first | exact HB.out | apply zf | apply zb | apply zg) | exact HB.out)); (case side2 => exact HR0.out); (case side3 => exact HC0.out); rintro e w8 ⟨g472, rfl, hi, hb, hb2⟩; refine ⟨_, rfl, ?_⟩; have n0_ := za.mk (hb); have n1_ := za.mk (hi); clear HB; have HB := n0_; have HI472 := n1_; clear n0_ n1_; (try clear hb); (try clear hb2); (try clear hk); (try clear hi)) | ((with_reducible refine qc (f := 11) rfl ?_); refine qU (some 25) rfl rfl Try.func11 (by kernel_rfl) rfl #[.pointer (some ⟨g472, 0, none⟩), .int .i64 8] rfl (by (try simp only [List.map_toArray, List.map_cons, List.map_nil]); first | done | rfl | (simp only [List.length_drop, List.length_take]; rfl)) ?_; (with_reducible refine (zw.calls k g472 t470 t471 8 t473 t474 t477 w _ ?side1 ?side2 A5.out).mono ?_); (case side1 => repeat (first | (with_reducible first | exact HI472.out | apply zt.alloc | apply zt.drewN | apply zt.drew | apply zt.qQ) | exact HI472.out)); (case side2 => repeat (first | (with_reducible first | exact HB.out | apply zf | apply zb | apply zg | refine zi ?_ (zt.ge HI472.out)) | exact HB.out)); rintro e w9 ⟨v475, rfl, ho0, hi, hb, hk⟩; refine ⟨_, rfl, ?_⟩; have n0_ := za.mk (Kd.qM ho0 (zB (by repeat (first | (with_reducible first | exact HB.out | apply zf | apply zb | apply zg | refine zi ?_ (zt.ge HI472.out)) | exact HB.out)))); have n1_ := za.mk (hb); have n2_ := za.mk (hi); clear HB; clear HI472; have HO476 := n0_; have HB := n1_; have HI472 := n2_; clear n0_ n1_ n2_; (try clear hb); (try clear hb2); (try clear hk); (try clear hi); (try clear ho0)) | ((with_reducible refine qJ (N := 4) rfl ?_); refine qI ?hg (N := 4) ?hd (cs := #[.int .i64 0, .slice none 0 0]) (t := 29) ?hr ?_; (case hd => rfl); (case hg => rfl); (case hr => first | (go_simp; done) | (go_simp; rfl)); intro gb478 hg w10 hbox hb; have n0_ := za.mk (Kd.zL (by (with_reducible repeat (first | apply Kd.zn | apply Kd.zq | apply Kd.zu)); exact HO476.out) hb); have n1_ := za.mk (zt.below (by repeat (first | (with_reducible first | exact HI472.out | apply zt.alloc | apply zt.drewN | apply zt.drew | apply zt.qQ) | exact HI472.out)) hb); have n2_ := za.mk (zT (by repeat (first | (with_reducible first | exact HB.out | apply zf | apply zb | apply zg | refine zi ?_ (zt.ge HI472.out)) | exact HB.out)) hb); have n3_ := za.mk (hbox); have n4_ := za.mk ((by rw [hg]; exact (zB (by repeat (first | (with_reducible first | exact HB.out | apply zf | apply zb | apply zg | refine zi ?_ (zt.ge HI472.out)) | exact HB.out))) : w.heap.size ≤ gb478)); have n5_ := za.mk ((by rw [hg]; exact (zB (by repeat (first | (with_reducible first | exact HB.out | apply zf | apply zb | apply zg | refine zi ?_ (zt.ge HI472.out)) | exact HB.out))) : w.heap.size ≤ gb478)); have n6_ := za.mk ((by rw [hg]; exact Nat.ne_of_lt (zt.lt (show zt w _ g472 t470 t477 from by repeat (first | (with_reducible first | exact HI472.out | apply zt.alloc | apply zt.drewN | apply zt.drew | apply zt.qQ) | exact HI472.out))) : g472 ≠ gb478)); have n7_ := za.mk ((by rw [hg]; exact Nat.ne_of_gt (zt.lt (show zt w _ g472 t470 t477 from by repeat (first | (with_reducible first | exact HI472.out | apply zt.alloc | apply zt.drewN | apply zt.drew | apply zt.qQ) | exact HI472.out))) : gb478 ≠ g472)); clear HO476; clear HI472; clear HB; have HO476 := n0_; have HI472 := n1_; have HB := n2_; have BK478 := n3_; have GW478 := n4_; have GE478 := n5_; have NB472_478 := n6_; have NB478_472 := n7_; clear n0_ n1_ n2_ n3_ n4_ n5_ n6_ n7_; clear hb hbox hg; have hnb11 := NB478_472.out; have hnc11 := NB472_478.out; have hcz12_0 : w10.cell? ⟨gb478, 0, none⟩ = some (.int .i64 0) := (ze BK478.out 0).trans rfl; have hcz12_1 : w10.cell? ⟨gb478, 1, none⟩ = some (.slice none 0 0) := (ze BK478.out 1).trans rfl; have hfz12_0 := zl BK478.out 0; have hfz12_1 := zl BK478.out 1; obtain ⟨Ao13, co13, eo13⟩ := Kd.qC HO476.out; subst eo13) | ((with_reducible refine qc (f := 12) rfl ?_); refine qU (some 29) rfl rfl Try.func12 (by kernel_rfl) rfl #[.pointer (some ⟨g472, 0, none⟩), .int .i64 t473] rfl (by (try simp only [List.map_toArray, List.map_cons, List.map_nil]); first | done | rfl | (simp only [List.length_drop, List.length_take]; rfl)) ?_; (with_reducible refine (qf.calls k g472 t470 t477 t473 t479 t480 t483 t486 w _ ?side1 ?side2 A6.out).mono ?_); (case side1 => repeat (first | (with_reducible first | exact HI472.out | apply zt.alloc | apply zt.drewN | apply zt.drew | apply zt.qQ | refine zt.far ?_ NB472_478.out _) | exact HI472.out)); (case side2 => repeat (first | (with_reducible first | exact HB.out | apply zf | apply zb | apply zg | refine zi ?_ (zt.ge HI472.out) | refine zi ?_ GE478.out) | exact HB.out)); rintro e w14 ⟨v481, v484, rfl, ho0, ho1, hi, hb, hk⟩; refine ⟨_, rfl, ?_⟩; have n0_ := za.mk (Kd.zR (Kd.R_keep (zt.apart (show zt w _ g472 t470 t477 from by repeat (first | (with_reducible first | exact HI472.out | apply zt.alloc | apply zt.drewN | apply zt.drew | apply zt.qQ | refine zt.far ?_ NB472_478.out _) | exact HI472.out)) (by (with_reducible repeat (first | apply Kd.zn | apply Kd.zq | apply Kd.zu)); exact (Kd.zR (Kd.zz (p := ⟨gb478, 1, none⟩) (Kd.zz (p := ⟨gb478, 0, none⟩) (Kd.qw HO476.out BK478.out (by decide)) (fun _ hk => hk.2) (.int .i64 t473)) (fun _ hk => hk.2) (.slice Ao13 t474.length co13)) (fun _ h_ => h_.1))) (by decide)) hk (fun _ h => h.2)) (fun _ h => h.1)); have n1_ := za.mk (zC.blk hk (g' := gb478) (o := .cells #[.int .i64 t473, .slice Ao13 t474.length co13] 29 (0, 0)) (by (with_reducible repeat (first | refine zk ?_ _ | refine zm ?_ | refine zh ?_ _)); refine zX (cs := #[.int .i64 t473, .slice none 0 0]) ?_ 1 _ rfl; (with_reducible repeat (first | refine zk ?_ _ | refine zm ?_ | refine zh ?_ _)); refine zX (cs := #[.int .i64 0, .slice none 0 0]) ?_ 0 _ rfl; (with_reducible repeat (first | refine zk ?_ _ | refine zm ?_ | refine zh ?_ _)); exact BK478.out) NB478_472.out (by simp)); have n2_ := za.mk (Kd.qM ho0 (zB (by repeat (first | (with_reducible first | exact HB.out | apply zf | apply zb | apply zg | refine zi ?_ (zt.ge HI472.out) | refine zi ?_ GE478.out) | exact HB.out)))); have n3_ := za.mk (Kd.qM ho1 (zB (by repeat (first | (with_reducible first | exact HB.out | apply zf | apply zb | apply zg | refine zi ?_ (zt.ge HI472.out) | refine zi ?_ GE478.out) | exact HB.out)))); have n4_ := za.mk (hb); have n5_ := za.mk (hi); clear HO476; clear BK478; clear HB; clear HI472; have HO476 := n0_; have BK478 := n1_; have HO482 := n2_; have HO485 := n3_; have HB := n4_; have HI472 := n5_; clear n0_ n1_ n2_ n3_ n4_ n5_; (try clear hb); (try clear hb2); (try clear hk); (try clear hi); (try clear ho0); (try clear ho1)) | ((with_reducible refine qJ (N := 5) rfl ?_); refine qI ?hg (N := 5) ?hd (cs := #[.int .i64 0, .slice none 0 0, .slice none 0 0]) (t := 32) ?hr ?_; (case hd => rfl); (case hg => rfl); (case hr => first | (go_simp; done) | (go_simp; rfl)); intro gb487 hg w15 hbox hb; have n0_ := za.mk (Kd.zL (by (with_reducible repeat (first | apply Kd.zn | apply Kd.zq | apply Kd.zu)); exact HO476.out) hb); have n1_ := za.mk (Kd.zL (by (with_reducible repeat (first | apply Kd.zn | apply Kd.zq | apply Kd.zu)); exact HO482.out) hb); have n2_ := za.mk (Kd.zL (by (with_reducible repeat (first | apply Kd.zn | apply Kd.zq | apply Kd.zu)); exact HO485.out) hb); have n3_ := za.mk (zt.below (by repeat (first | (with_reducible first | exact HI472.out | apply zt.alloc | apply zt.drewN | apply zt.drew | apply zt.qQ | refine zt.far ?_ NB472_478.out _) | exact HI472.out)) hb); have n4_ := za.mk (zW (g := gb478) (o := .cells #[.int .i64 t473, .slice Ao13 t474.length co13] 29 (0, 0)) (by (with_reducible repeat (first | refine zk ?_ _ | refine zm ?_ | refine zh ?_ _)); exact BK478.out) hb); have n5_ := za.mk (zT (by repeat (first | (with_reducible first | exact HB.out | apply zf | apply zb | apply zg | refine zi ?_ (zt.ge HI472.out) | refine zi ?_ GE478.out) | exact HB.out)) hb); have n6_ := za.mk (hbox); have n7_ := za.mk ((by rw [hg]; exact (zB (by repeat (first | (with_reducible first | exact HB.out | apply zf | apply zb | apply zg | refine zi ?_ (zt.ge HI472.out) | refine zi ?_ GE478.out) | exact HB.out))) : w.heap.size ≤ gb487)); have n8_ := za.mk ((by rw [hg]; exact (zB (by repeat (first | (with_reducible first | exact HB.out | apply zf | apply zb | apply zg | refine zi ?_ (zt.ge HI472.out) | refine zi ?_ GE478.out) | exact HB.out))) : w.heap.size ≤ gb487)); have n9_ := za.mk ((by rw [hg]; exact Nat.ne_of_lt (qg (g := gb478) (o := .cells #[.int .i64 t473, .slice Ao13 t474.length co13] 29 (0, 0)) (by (with_reducible repeat (first | refine zk ?_ _ | refine zm ?_ | refine zh ?_ _)); exact BK478.out)) : gb478 ≠ gb487)); have n10_ := za.mk ((by rw [hg]; exact Nat.ne_of_gt (qg (g := gb478) (o := .cells #[.int .i64 t473, .slice Ao13 t474.length co13] 29 (0, 0)) (by (with_reducible repeat (first | refine zk ?_ _ | refine zm ?_ | refine zh ?_ _)); exact BK478.out)) : gb487 ≠ gb478)); have n11_ := za.mk ((by rw [hg]; exact Nat.ne_of_lt (zt.lt (show zt w _ g472 t470 t486 from by repeat (first | (with_reducible first | exact HI472.out | apply zt.alloc | apply zt.drewN | apply zt.drew | apply zt.qQ | refine zt.far ?_ NB472_478.out _) | exact HI472.out))) : g472 ≠ gb487)); have n12_ := za.mk ((by rw [hg]; exact Nat.ne_of_gt (zt.lt (show zt w _ g472 t470 t486 from by repeat (first | (with_reducible first | exact HI472.out | apply zt.alloc | apply zt.drewN | apply zt.drew | apply zt.qQ | refine zt.far ?_ NB472_478.out _) | exact HI472.out))) : gb487 ≠ g472)); clear HO476; clear HO482; clear HO485; clear HI472; clear BK478; clear HB; have HO476 := n0_; have HO482 := n1_; have HO485 := n2_; have HI472 := n3_; have BK478 := n4_; have HB := n5_; have BK487 := n6_; have GW487 := n7_; have GE487 := n8_; have NB478_487 := n9_; have NB487_478 := n10_; have NB472_487 := n11_; have NB487_472 := n12_; clear n0_ n1_ n2_ n3_ n4_ n5_ n6_ n7_ n8_ n9_ n10_ n11_ n12_; clear hb hbox hg; have hnb16 := NB487_478.out; have hnc16 := NB478_487.out; have hnb17 := NB487_472.out; have hnc17 := NB472_487.out; have hcz18_0 : w15.cell? ⟨gb487, 0, none⟩ = some (.int .i64 0) := (ze BK487.out 0).trans rfl; have hcz18_1 : w15.cell? ⟨gb487, 1, none⟩ = some (.slice none 0 0) := (ze BK487.out 1).trans rfl; have hcz18_2 : w15.cell? ⟨gb487, 2, none⟩ = some (.slice none 0 0) := (ze BK487.out 2).trans rfl; have hfz18_0 := zl BK487.out 0; have hfz18_1 := zl BK487.out 1; have hfz18_2 := zl BK487.out 2; obtain ⟨Ao19, co19, eo19⟩ := Kd.qC HO482.out; subst eo19; obtain ⟨Ao20, co20, eo20⟩ := Kd.qC HO485.out; subst eo20; have hcz21_0 : w15.cell? ⟨gb478, 0, none⟩ = some (.int .i64 t473) := (ze BK478.out 0).trans rfl; have hcz21_1 : w15.cell? ⟨gb478, 1, none⟩ = some (.slice Ao13 t474.length co13) := (ze BK478.out 1).trans rfl; have hfz21_0 := zl BK478.out 0; have hfz21_1 := zl BK478.out 1) | ((with_reducible refine qc (f := 13) rfl ?_); refine qU (some 33) rfl rfl Try.func13 (by kernel_rfl) rfl #[.agg #[.int .i64 t473, .slice Ao13 t474.length co13], .agg #[.int .i64 t479, .slice Ao19 t480.length co19, .slice Ao20 t483.length co20]] rfl (by (try simp only [List.map_toArray, List.map_cons, List.map_nil]); first | done | rfl | (simp only [List.length_drop, List.length_take]; rfl)) ?_; (with_reducible refine (qE.calls t473 _ _ t474 t479 _ _ t480 _ _ t483 t488 t489 t492 t493 t496 t499 t502 t505 _ ?side1 ?side2 ?side3 ?side4 ?side5 ?side6 A7.out).mono ?_); (case side1 => refine (Kd.zO (e := 66) (base := w.heap.size) (ok := fun k_ => True) (n := t474.length) (c := co13) ?_).2.2; exact (by (with_reducible repeat (first | apply Kd.zn | apply Kd.zq | apply Kd.zu)); exact (Kd.zR (Kd.zz (p := ⟨gb487, 2, none⟩) (Kd.zz (p := ⟨gb487, 1, none⟩) (Kd.zz (p := ⟨gb487, 0, none⟩) (Kd.qw HO476.out BK487.out (by decide)) (fun _ hk => hk.2) (.int .i64 t479)) (fun _ hk => hk.2) (.slice Ao19 t480.length co19)) (fun _ hk => hk.2) (.slice Ao20 t483.length co20)) (fun _ h_ => h_.1)))); (case side2 => exact (Kd.zO HO476.out).2.1); (case side3 => refine (Kd.zO (e := 3) (base := w.heap.size) (ok := fun k_ => some k_ ≠ (.slice Ao20 t483.length co20 : Value).ownBlock) (n := t480.length) (c := co19) ?_).2.2; exact (by (with_reducible repeat (first | apply Kd.zn | apply Kd.zq | apply Kd.zu)); exact (Kd.zR (Kd.zz (p := ⟨gb487, 2, none⟩) (Kd.zz (p := ⟨gb487, 1, none⟩) (Kd.zz (p := ⟨gb487, 0, none⟩) (Kd.qw HO482.out BK487.out (by decide)) (fun _ hk => hk.2) (.int .i64 t479)) (fun _ hk => hk.2) (.slice Ao19 t480.length co19)) (fun _ hk => hk.2) (.slice Ao20 t483.length co20)) (fun _ h_ => h_.1)))); (case side4 => exact (Kd.zO HO482.out).2.1); (case side5 => refine (Kd.zO (e := 3) (base := w.heap.size) (ok := fun k_ => some k_ ≠ (.slice Ao19 t480.length co19 : Value).ownBlock) (n := t483.length) (c := co20) ?_).2.2; exact (by (with_reducible repeat (first | apply Kd.zn | apply Kd.zq | apply Kd.zu)); exact (Kd.zR (Kd.zz (p := ⟨gb487, 2, none⟩) (Kd.zz (p := ⟨gb487, 1, none⟩) (Kd.zz (p := ⟨gb487, 0, none⟩) (Kd.qw HO485.out BK487.out (by decide)) (fun _ hk => hk.2) (.int .i64 t479)) (fun _ hk => hk.2) (.slice Ao19 t480.length co19)) (fun _ hk => hk.2) (.slice Ao20 t483.length co20)) (fun _ h_ => h_.1)))); (case side6 => exact (Kd.zO HO485.out).2.1); rintro e w22 ⟨v490, v494, v497, v500, v503, rfl, ho0, ho1, ho2, ho3, ho4, hb⟩; refine ⟨_, rfl, ?_⟩; have n0_ := za.mk (Kd.qG (by (with_reducible repeat (first | apply Kd.zn | apply Kd.zq | apply Kd.zu)); exact (Kd.zR (Kd.zz (p := ⟨gb487, 2, none⟩) (Kd.zz (p := ⟨gb487, 1, none⟩) (Kd.zz (p := ⟨gb487, 0, none⟩) (Kd.qw HO476.out BK487.out (by decide)) (fun _ hk => hk.2) (.int .i64 t479)) (fun _ hk => hk.2) (.slice Ao19 t480.length co19)) (fun _ hk => hk.2) (.slice Ao20 t483.length co20)) (fun _ h_ => h_.1))) (Kd.qL ho0) hb); have n1_ := za.mk (Kd.zR (Kd.ZY (Kd.ZY (Kd.R_old (by (with_reducible repeat (first | apply Kd.zn | apply Kd.zq | apply Kd.zu)); exact (Kd.zR (Kd.zz (p := ⟨gb487, 2, none⟩) (Kd.zz (p := ⟨gb487, 1, none⟩) (Kd.zz (p := ⟨gb487, 0, none⟩) (Kd.qw HO482.out BK487.out (by decide)) (fun _ hk => hk.2) (.int .i64 t479)) (fun _ hk => hk.2) (.slice Ao19 t480.length co19)) (fun _ hk => hk.2) (.slice Ao20 t483.length co20)) (fun _ h_ => h_.1))) hb) (Kd.qL ho1)) (Kd.qL ho2)) (fun _ h_ => h_.1)); have n2_ := za.mk (Kd.zR (Kd.ZY (Kd.ZY (Kd.R_old (by (with_reducible repeat (first | apply Kd.zn | apply Kd.zq | apply Kd.zu)); exact (Kd.zR (Kd.zz (p := ⟨gb487, 2, none⟩) (Kd.zz (p := ⟨gb487, 1, none⟩) (Kd.zz (p := ⟨gb487, 0, none⟩) (Kd.qw HO485.out BK487.out (by decide)) (fun _ hk => hk.2) (.int .i64 t479)) (fun _ hk => hk.2) (.slice Ao19 t480.length co19)) (fun _ hk => hk.2) (.slice Ao20 t483.length co20)) (fun _ h_ => h_.1))) hb) (Kd.qL ho1)) (Kd.qL ho2)) (fun _ h_ => h_.1)); have n3_ := za.mk (Kd.qM (Kd.qN ho0 (Kd.R_lt (by (with_reducible repeat (first | apply Kd.zn | apply Kd.zq | apply Kd.zu)); exact (Kd.zR (Kd.zz (p := ⟨gb487, 2, none⟩) (Kd.zz (p := ⟨gb487, 1, none⟩) (Kd.zz (p := ⟨gb487, 0, none⟩) (Kd.qw HO476.out BK487.out (by decide)) (fun _ hk => hk.2) (.int .i64 t479)) (fun _ hk => hk.2) (.slice Ao19 t480.length co19)) (fun _ hk => hk.2) (.slice Ao20 t483.length co20)) (fun _ h_ => h_.1))))) (zB (by repeat (first | (with_reducible first | exact HB.out | apply zf | apply zb | apply zg | refine zi ?_ (zt.ge HI472.out) | refine zi ?_ GE478.out | refine zi ?_ GE487.out) | exact HB.out)))); have n4_ := za.mk (Kd.qM (Kd.qN (Kd.qN ho1 (Kd.R_lt (by (with_reducible repeat (first | apply Kd.zn | apply Kd.zq | apply Kd.zu)); exact (Kd.zR (Kd.zz (p := ⟨gb487, 2, none⟩) (Kd.zz (p := ⟨gb487, 1, none⟩) (Kd.zz (p := ⟨gb487, 0, none⟩) (Kd.qw HO482.out BK487.out (by decide)) (fun _ hk => hk.2) (.int .i64 t479)) (fun _ hk => hk.2) (.slice Ao19 t480.length co19)) (fun _ hk => hk.2) (.slice Ao20 t483.length co20)) (fun _ h_ => h_.1))))) (Kd.R_lt (by (with_reducible repeat (first | apply Kd.zn | apply Kd.zq | apply Kd.zu)); exact (Kd.zR (Kd.zz (p := ⟨gb487, 2, none⟩) (Kd.zz (p := ⟨gb487, 1, none⟩) (Kd.zz (p := ⟨gb487, 0, none⟩) (Kd.qw HO485.out BK487.out (by decide)) (fun _ hk => hk.2) (.int .i64 t479)) (fun _ hk => hk.2) (.slice Ao19 t480.length co19)) (fun _ hk => hk.2) (.slice Ao20 t483.length co20)) (fun _ h_ => h_.1))))) (zB (by repeat (first | (with_reducible first | exact HB.out | apply zf | apply zb | apply zg | refine zi ?_ (zt.ge HI472.out) | refine zi ?_ GE478.out | refine zi ?_ GE487.out) | exact HB.out)))); have n5_ := za.mk (Kd.qM (Kd.qN (Kd.qN ho2 (Kd.R_lt (by (with_reducible repeat (first | apply Kd.zn | apply Kd.zq | apply Kd.zu)); exact (Kd.zR (Kd.zz (p := ⟨gb487, 2, none⟩) (Kd.zz (p := ⟨gb487, 1, none⟩) (Kd.zz (p := ⟨gb487, 0, none⟩) (Kd.qw HO482.out BK487.out (by decide)) (fun _ hk => hk.2) (.int .i64 t479)) (fun _ hk => hk.2) (.slice Ao19 t480.length co19)) (fun _ hk => hk.2) (.slice Ao20 t483.length co20)) (fun _ h_ => h_.1))))) (Kd.R_lt (by (with_reducible repeat (first | apply Kd.zn | apply Kd.zq | apply Kd.zu)); exact (Kd.zR (Kd.zz (p := ⟨gb487, 2, none⟩) (Kd.zz (p := ⟨gb487, 1, none⟩) (Kd.zz (p := ⟨gb487, 0, none⟩) (Kd.qw HO485.out BK487.out (by decide)) (fun _ hk => hk.2) (.int .i64 t479)) (fun _ hk => hk.2) (.slice Ao19 t480.length co19)) (fun _ hk => hk.2) (.slice Ao20 t483.length co20)) (fun _ h_ => h_.1))))) (zB (by repeat (first | (with_reducible first | exact HB.out | apply zf | apply zb | apply zg | refine zi ?_ (zt.ge HI472.out) | refine zi ?_ GE478.out | refine zi ?_ GE487.out) | exact HB.out)))); have n6_ := za.mk (Kd.qM (Kd.qN (Kd.qN ho3 (Kd.R_lt (by (with_reducible repeat (first | apply Kd.zn | apply Kd.zq | apply Kd.zu)); exact (Kd.zR (Kd.zz (p := ⟨gb487, 2, none⟩) (Kd.zz (p := ⟨gb487, 1, none⟩) (Kd.zz (p := ⟨gb487, 0, none⟩) (Kd.qw HO482.out BK487.out (by decide)) (fun _ hk => hk.2) (.int .i64 t479)) (fun _ hk => hk.2) (.slice Ao19 t480.length co19)) (fun _ hk => hk.2) (.slice Ao20 t483.length co20)) (fun _ h_ => h_.1))))) (Kd.R_lt (by (with_reducible repeat (first | apply Kd.zn | apply Kd.zq | apply Kd.zu)); exact (Kd.zR (Kd.zz (p := ⟨gb487, 2, none⟩) (Kd.zz (p := ⟨gb487, 1, none⟩) (Kd.zz (p := ⟨gb487, 0, none⟩) (Kd.qw HO485.out BK487.out (by decide)) (fun _ hk => hk.2) (.int .i64 t479)) (fun _ hk => hk.2) (.slice Ao19 t480.length co19)) (fun _ hk => hk.2) (.slice Ao20 t483.length co20)) (fun _ h_ => h_.1))))) (zB (by repeat (first | (with_reducible first | exact HB.out | apply zf | apply zb | apply zg | refine zi ?_ (zt.ge HI472.out) | refine zi ?_ GE478.out | refine zi ?_ GE487.out) | exact HB.out)))); have n7_ := za.mk (Kd.qM ho4 (zB (by repeat (first | (with_reducible first | exact HB.out | apply zf | apply zb | apply zg | refine zi ?_ (zt.ge HI472.out) | refine zi ?_ GE478.out | refine zi ?_ GE487.out) | exact HB.out)))); have n8_ := za.mk (zt.below (show zt w (((w15.setCell ⟨gb487, 0, none⟩ (.int .i64 t479)).setCell ⟨gb487, 1, none⟩ (.slice Ao19 t480.length co19)).setCell ⟨gb487, 2, none⟩ (.slice Ao20 t483.length co20)) g472 t470 t486 from by repeat (first | (with_reducible first | exact HI472.out | apply zt.alloc | apply zt.drewN | apply zt.drew | apply zt.qQ | refine zt.far ?_ NB472_478.out _ | refine zt.far ?_ NB472_487.out _) | exact HI472.out)) hb); have n9_ := za.mk (zW (g := gb478) (o := .cells #[.int .i64 t473, .slice Ao13 t474.length co13] 29 (0, 0)) (by (with_reducible repeat (first | refine zk ?_ _ | refine zm ?_ | refine zh ?_ _)); refine ql ?_ NB478_487.out _; (with_reducible repeat (first | refine zk ?_ _ | refine zm ?_ | refine zh ?_ _)); refine ql ?_ NB478_487.out _; (with_reducible repeat (first | refine zk ?_ _ | refine zm ?_ | refine zh ?_ _)); refine ql ?_ NB478_487.out _; (with_reducible repeat (first | refine zk ?_ _ | refine zm ?_ | refine zh ?_ _)); exact BK478.out) hb); have n10_ := za.mk (zW (g := gb487) (o := .cells #[.int .i64 t479, .slice Ao19 t480.length co19, .slice Ao20 t483.length co20] 32 (0, 0)) (by (with_reducible repeat (first | refine zk ?_ _ | refine zm ?_ | refine zh ?_ _)); refine zX (cs := #[.int .i64 t479, .slice Ao19 t480.length co19, .slice none 0 0]) ?_ 2 _ rfl; (with_reducible repeat (first | refine zk ?_ _ | refine zm ?_ | refine zh ?_ _)); refine zX (cs := #[.int .i64 t479, .slice none 0 0, .slice none 0 0]) ?_ 1 _ rfl; (with_reducible repeat (first | refine zk ?_ _ | refine zm ?_ | refine zh ?_ _)); refine zX (cs := #[.int .i64 0, .slice none 0 0, .slice none 0 0]) ?_ 0 _ rfl; (with_reducible repeat (first | refine zk ?_ _ | refine zm ?_ | refine zh ?_ _)); exact BK487.out) hb); have n11_ := za.mk (zT (by repeat (first | (with_reducible first | exact HB.out | apply zf | apply zb | apply zg | refine zi ?_ (zt.ge HI472.out) | refine zi ?_ GE478.out | refine zi ?_ GE487.out) | exact HB.out)) hb); clear HO476; clear HO482; clear HO485; clear HI472; clear BK478; clear BK487; clear HB; have HO476 := n0_; have HO482 := n1_; have HO485 := n2_; have HO491 := n3_; have HO495 := n4_; have HO498 := n5_; have HO501 := n6_; have HO504 := n7_; have HI472 := n8_; have BK478 := n9_; have BK487 := n10_; have HB := n11_; clear n0_ n1_ n2_ n3_ n4_ n5_ n6_ n7_ n8_ n9_ n10_ n11_; (try clear hb); (try clear hb2); (try clear hk); (try clear hi); (try clear ho0); (try clear ho1); (try clear ho2); (try clear ho3); (try clear ho4)) | ((with_reducible refine qJ (N := 6) rfl ?_); refine qI ?hg (N := 6) ?hd (cs := #[.int .i64 0, .slice none 0 0, .int .i64 0, .slice none 0 0, .slice none 0 0, .slice none 0 0, .slice none 0 0]) (t := 37) ?hr ?_; (case hd => rfl); (case hg => rfl); (case hr => first | (go_simp; done) | (go_simp; rfl)); intro gb506 hg w23 hbox hb; have n0_ := za.mk (Kd.zL (by (with_reducible repeat (first | apply Kd.zn | apply Kd.zq | apply Kd.zu)); exact HO476.out) hb); have n1_ := za.mk (Kd.zL (by (with_reducible repeat (first | apply Kd.zn | apply Kd.zq | apply Kd.zu)); exact HO482.out) hb); have n2_ := za.mk (Kd.zL (by (with_reducible repeat (first | apply Kd.zn | apply Kd.zq | apply Kd.zu)); exact HO485.out) hb); have n3_ := za.mk (Kd.zL (by (with_reducible repeat (first | apply Kd.zn | apply Kd.zq | apply Kd.zu)); exact HO491.out) hb); have n4_ := za.mk (Kd.zL (by (with_reducible repeat (first | apply Kd.zn | apply Kd.zq | apply Kd.zu)); exact HO495.out) hb); have n5_ := za.mk (Kd.zL (by (with_reducible repeat (first | apply Kd.zn | apply Kd.zq | apply Kd.zu)); exact HO498.out) hb); have n6_ := za.mk (Kd.zL (by (with_reducible repeat (first | apply Kd.zn | apply Kd.zq | apply Kd.zu)); exact HO501.out) hb); have n7_ := za.mk (Kd.zL (by (with_reducible repeat (first | apply Kd.zn | apply Kd.zq | apply Kd.zu)); exact HO504.out) hb); have n8_ := za.mk (zt.below (by repeat (first | (with_reducible first | exact HI472.out | apply zt.alloc | apply zt.drewN | apply zt.drew | apply zt.qQ | refine zt.far ?_ NB472_478.out _ | refine zt.far ?_ NB472_487.out _) | exact HI472.out)) hb); have n9_ := za.mk (zW (g := gb478) (o := .cells #[.int .i64 t473, .slice Ao13 t474.length co13] 29 (0, 0)) (by (with_reducible repeat (first | refine zk ?_ _ | refine zm ?_ | refine zh ?_ _)); exact BK478.out) hb); have n10_ := za.mk (zW (g := gb487) (o := .cells #[.int .i64 t479, .slice Ao19 t480.length co19, .slice Ao20 t483.length co20] 32 (0, 0)) (by (with_reducible repeat (first | refine zk ?_ _ | refine zm ?_ | refine zh ?_ _)); exact BK487.out) hb); have n11_ := za.mk (zT (by repeat (first | (with_reducible first | exact HB.out | apply zf | apply zb | apply zg | refine zi ?_ (zt.ge HI472.out) | refine zi ?_ GE478.out | refine zi ?_ GE487.out) | exact HB.out)) hb); have n12_ := za.mk (hbox); have n13_ := za.mk ((by rw [hg]; exact (zB (by repeat (first | (with_reducible first | exact HB.out | apply zf | apply zb | apply zg | refine zi ?_ (zt.ge HI472.out) | refine zi ?_ GE478.out | refine zi ?_ GE487.out) | exact HB.out))) : w.heap.size ≤ gb506)); have n14_ := za.mk ((by rw [hg]; exact (zB (by repeat (first | (with_reducible first | exact HB.out | apply zf | apply zb | apply zg | refine zi ?_ (zt.ge HI472.out) | refine zi ?_ GE478.out | refine zi ?_ GE487.out) | exact HB.out))) : w.heap.size ≤ gb506)); have n15_ := za.mk ((by rw [hg]; exact Nat.ne_of_lt (qg (g := gb478) (o := .cells #[.int .i64 t473, .slice Ao13 t474.length co13] 29 (0, 0)) (by (with_reducible repeat (first | refine zk ?_ _ | refine zm ?_ | refine zh ?_ _)); exact BK478.out)) : gb478 ≠ gb506)); have n16_ := za.mk ((by rw [hg]; exact Nat.ne_of_gt (qg (g := gb478) (o := .cells #[.int .i64 t473, .slice Ao13 t474.length co13] 29 (0, 0)) (by (with_reducible repeat (first | refine zk ?_ _ | refine zm ?_ | refine zh ?_ _)); exact BK478.out)) : gb506 ≠ gb478)); have n17_ := za.mk ((by rw [hg]; exact Nat.ne_of_lt (qg (g := gb487) (o := .cells #[.int .i64 t479, .slice Ao19 t480.length co19, .slice Ao20 t483.length co20] 32 (0, 0)) (by (with_reducible repeat (first | refine zk ?_ _ | refine zm ?_ | refine zh ?_ _)); exact BK487.out)) : gb487 ≠ gb506)); have n18_ := za.mk ((by rw [hg]; exact Nat.ne_of_gt (qg (g := gb487) (o := .cells #[.int .i64 t479, .slice Ao19 t480.length co19, .slice Ao20 t483.length co20] 32 (0, 0)) (by (with_reducible repeat (first | refine zk ?_ _ | refine zm ?_ | refine zh ?_ _)); exact BK487.out)) : gb506 ≠ gb487)); have n19_ := za.mk ((by rw [hg]; exact Nat.ne_of_lt (zt.lt (show zt w _ g472 t470 t486 from by repeat (first | (with_reducible first | exact HI472.out | apply zt.alloc | apply zt.drewN | apply zt.drew | apply zt.qQ | refine zt.far ?_ NB472_478.out _ | refine zt.far ?_ NB472_487.out _) | exact HI472.out))) : g472 ≠ gb506)); have n20_ := za.mk ((by rw [hg]; exact Nat.ne_of_gt (zt.lt (show zt w _ g472 t470 t486 from by repeat (first | (with_reducible first | exact HI472.out | apply zt.alloc | apply zt.drewN | apply zt.drew | apply zt.qQ | refine zt.far ?_ NB472_478.out _ | refine zt.far ?_ NB472_487.out _) | exact HI472.out))) : gb506 ≠ g472)); clear HO476; clear HO482; clear HO485; clear HO491; clear HO495; clear HO498; clear HO501; clear HO504; clear HI472; clear BK478; clear BK487; clear HB; have HO476 := n0_; have HO482 := n1_; have HO485 := n2_; have HO491 := n3_; have HO495 := n4_; have HO498 := n5_; have HO501 := n6_; have HO504 := n7_; have HI472 := n8_; have BK478 := n9_; have BK487 := n10_; have HB := n11_; have BK506 := n12_; have GW506 := n13_; have GE506 := n14_; have NB478_506 := n15_; have NB506_478 := n16_; have NB487_506 := n17_; have NB506_487 := n18_; have NB472_506 := n19_; have NB506_472 := n20_; clear n0_ n1_ n2_ n3_ n4_ n5_ n6_ n7_ n8_ n9_ n10_ n11_ n12_ n13_ n14_ n15_ n16_ n17_ n18_ n19_ n20_; clear hb hbox hg; have hnb24 := NB506_478.out; have hnc24 := NB478_506.out; have hnb25 := NB506_487.out; have hnc25 := NB487_506.out; have hnb26 := NB506_472.out; have hnc26 := NB472_506.out; have hcz27_0 : w23.cell? ⟨gb506, 0, none⟩ = some (.int .i64 0) := (ze BK506.out 0).trans rfl; have hcz27_1 : w23.cell? ⟨gb506, 1, none⟩ = some (.slice none 0 0) := (ze BK506.out 1).trans rfl; have hcz27_2 : w23.cell? ⟨gb506, 2, none⟩ = some (.int .i64 0) := (ze BK506.out 2).trans rfl; have hcz27_3 : w23.cell? ⟨gb506, 3, none⟩ = some (.slice none 0 0) := (ze BK506.out 3).trans rfl; have hcz27_4 : w23.cell? ⟨gb506, 4, none⟩ = some (.slice none 0 0) := (ze BK506.out 4).trans rfl; have hcz27_5 : w23.cell? ⟨gb506, 5, none⟩ = some (.slice none 0 0) := (ze BK506.out 5).trans rfl; have hcz27_6 : w23.cell? ⟨gb506, 6, none⟩ = some (.slice none 0 0) := (ze BK506.out 6).trans rfl; have hfz27_0 := zl BK506.out 0; have hfz27_1 := zl BK506.out 1; have hfz27_2 := zl BK506.out 2; have hfz27_3 := zl BK506.out 3; have hfz27_4 := zl BK506.out 4; have hfz27_5 := zl BK506.out 5; have hfz27_6 := zl BK506.out 6; obtain ⟨Ao28, co28, eo28⟩ := Kd.qC HO491.out; subst eo28; obtain ⟨Ao29, co29, eo29⟩ := Kd.qC HO495.out; subst eo29; obtain ⟨Ao30, co30, eo30⟩ := Kd.qC HO498.out; subst eo30; obtain ⟨Ao31, co31, eo31⟩ := Kd.qC HO501.out; subst eo31; obtain ⟨Ao32, co32, eo32⟩ := Kd.qC HO504.out; subst eo32))
  go_loopg [8, 39] k (fun kq v8 v39 w' => ∃ (x8_1 : Int) (x39_1 : Int), v8 = .int .i64 x8_1 ∧ v39 = .int .i64 x39_1 ∧ za (zo.l0 kq t505 x8_1 0 t502 (t502.length : Int) x39_1 t473 t474 t479 t480 t483 = some r) ∧ za (kq ≤ k) ∧ za (Kd.R (Kd.slice 42 (Kd.slice 56 k56)) 41 w' w.heap.size (fun _ => True) (.slice Ao32 t502.length co32) t502) ∧ za (Kd.R k66 66 w' w.heap.size (fun k_ => some k_ ≠ ((.slice Ao28 t489.length co28) : Value).ownBlock) (.slice Ao13 t474.length co13) t474) ∧ za (Kd.R (Kd.int .i64) 3 w' w.heap.size (fun k_ => some k_ ≠ ((.slice Ao20 t483.length co20) : Value).ownBlock ∧ some k_ ≠ ((.slice Ao29 t493.length co29) : Value).ownBlock ∧ some k_ ≠ ((.slice Ao30 t496.length co30) : Value).ownBlock) (.slice Ao19 t480.length co19) t480) ∧ za (Kd.R (Kd.int .i64) 3 w' w.heap.size (fun k_ => some k_ ≠ ((.slice Ao19 t480.length co19) : Value).ownBlock ∧ some k_ ≠ ((.slice Ao29 t493.length co29) : Value).ownBlock ∧ some k_ ≠ ((.slice Ao30 t496.length co30) : Value).ownBlock) (.slice Ao20 t483.length co20) t483) ∧ za (Kd.R k66 66 w' w.heap.size (fun k_ => some k_ ≠ ((.slice Ao13 t474.length co13) : Value).ownBlock) (.slice Ao28 t489.length co28) t489) ∧ za (Kd.R (Kd.int .i64) 3 w' w.heap.size (fun k_ => some k_ ≠ ((.slice Ao19 t480.length co19) : Value).ownBlock ∧ some k_ ≠ ((.slice Ao20 t483.length co20) : Value).ownBlock ∧ some k_ ≠ ((.slice Ao30 t496.length co30) : Value).ownBlock) (.slice Ao29 t493.length co29) t493) ∧ za (Kd.R (Kd.int .i64) 3 w' w.heap.size (fun k_ => some k_ ≠ ((.slice Ao19 t480.length co19) : Value).ownBlock ∧ some k_ ≠ ((.slice Ao20 t483.length co20) : Value).ownBlock ∧ some k_ ≠ ((.slice Ao29 t493.length co29) : Value).ownBlock) (.slice Ao30 t496.length co30) t496) ∧ za (Kd.R (Kd.slice 3 (Kd.int .i64)) 22 w' w.heap.size (fun k_ => some k_ ≠ ((.slice Ao19 t480.length co19) : Value).ownBlock ∧ some k_ ≠ ((.slice Ao20 t483.length co20) : Value).ownBlock ∧ some k_ ≠ ((.slice Ao29 t493.length co29) : Value).ownBlock ∧ some k_ ≠ ((.slice Ao30 t496.length co30) : Value).ownBlock) (.slice Ao31 t499.length co31) t499) ∧ za (Kd.R (Kd.slice 42 (Kd.slice 56 k56)) 41 w' w.heap.size (fun _ => True) (.slice Ao32 t502.length co32) t502) ∧ za (w'.heap[gb478]? = some (.cells #[.int .i64 t473, (.slice Ao13 t474.length co13)] 29 (0, 0))) ∧ za (w'.heap[gb487]? = some (.cells #[.int .i64 t479, (.slice Ao19 t480.length co19), (.slice Ao20 t483.length co20)] 32 (0, 0))) ∧ za (w'.heap[gb506]? = some (.cells #[.int .i64 t488, (.slice Ao28 t489.length co28), .int .i64 t492, (.slice Ao29 t493.length co29), (.slice Ao30 t496.length co30), (.slice Ao31 t499.length co31), (.slice Ao32 t502.length co32)] 37 (0, 0))) ∧ za (Below w.heap.size w w'))
  case atStart => exact ⟨(0), (0), (by first | rfl | (simp; done) | (simp [*]; done)), (by first | rfl | (simp; done) | (simp [*]; done)), H', ⟨Nat.le_refl _⟩, ⟨by (with_reducible repeat (first | apply Kd.zn | apply Kd.zq | apply Kd.zu)); exact Kd.zR (Kd.zz (p := ⟨gb506, 6, none⟩) (Kd.zz (p := ⟨gb506, 5, none⟩) (Kd.zz (p := ⟨gb506, 4, none⟩) (Kd.zz (p := ⟨gb506, 3, none⟩) (Kd.zz (p := ⟨gb506, 2, none⟩) (Kd.zz (p := ⟨gb506, 1, none⟩) (Kd.zz (p := ⟨gb506, 0, none⟩) (Kd.qw HO504.out BK506.out (by decide)) (fun _ hk => hk.2) (.int .i64 t488)) (fun _ hk => hk.2) (.slice Ao28 t489.length co28)) (fun _ hk => hk.2) (.int .i64 t492)) (fun _ hk => hk.2) (.slice Ao29 t493.length co29)) (fun _ hk => hk.2) (.slice Ao30 t496.length co30)) (fun _ hk => hk.2) (.slice Ao31 t499.length co31)) (fun _ hk => hk.2) (.slice Ao32 t502.length co32)) (fun _ hk => trivial)⟩, ⟨by (with_reducible repeat (first | apply Kd.zn | apply Kd.zq | apply Kd.zu)); exact Kd.zR (Kd.zz (p := ⟨gb506, 6, none⟩) (Kd.zz (p := ⟨gb506, 5, none⟩) (Kd.zz (p := ⟨gb506, 4, none⟩) (Kd.zz (p := ⟨gb506, 3, none⟩) (Kd.zz (p := ⟨gb506, 2, none⟩) (Kd.zz (p := ⟨gb506, 1, none⟩) (Kd.zz (p := ⟨gb506, 0, none⟩) (Kd.qw HO476.out BK506.out (by decide)) (fun _ hk => hk.2) (.int .i64 t488)) (fun _ hk => hk.2) (.slice Ao28 t489.length co28)) (fun _ hk => hk.2) (.int .i64 t492)) (fun _ hk => hk.2) (.slice Ao29 t493.length co29)) (fun _ hk => hk.2) (.slice Ao30 t496.length co30)) (fun _ hk => hk.2) (.slice Ao31 t499.length co31)) (fun _ hk => hk.2) (.slice Ao32 t502.length co32)) (fun _ hk => hk.1.2)⟩, ⟨by (with_reducible repeat (first | apply Kd.zn | apply Kd.zq | apply Kd.zu)); exact Kd.zR (Kd.zz (p := ⟨gb506, 6, none⟩) (Kd.zz (p := ⟨gb506, 5, none⟩) (Kd.zz (p := ⟨gb506, 4, none⟩) (Kd.zz (p := ⟨gb506, 3, none⟩) (Kd.zz (p := ⟨gb506, 2, none⟩) (Kd.zz (p := ⟨gb506, 1, none⟩) (Kd.zz (p := ⟨gb506, 0, none⟩) (Kd.qw HO482.out BK506.out (by decide)) (fun _ hk => hk.2) (.int .i64 t488)) (fun _ hk => hk.2) (.slice Ao28 t489.length co28)) (fun _ hk => hk.2) (.int .i64 t492)) (fun _ hk => hk.2) (.slice Ao29 t493.length co29)) (fun _ hk => hk.2) (.slice Ao30 t496.length co30)) (fun _ hk => hk.2) (.slice Ao31 t499.length co31)) (fun _ hk => hk.2) (.slice Ao32 t502.length co32)) (fun _ hk => ⟨hk.1.1.1, ⟨hk.1.1.2, hk.1.2⟩⟩)⟩, ⟨by (with_reducible repeat (first | apply Kd.zn | apply Kd.zq | apply Kd.zu)); exact Kd.zR (Kd.zz (p := ⟨gb506, 6, none⟩) (Kd.zz (p := ⟨gb506, 5, none⟩) (Kd.zz (p := ⟨gb506, 4, none⟩) (Kd.zz (p := ⟨gb506, 3, none⟩) (Kd.zz (p := ⟨gb506, 2, none⟩) (Kd.zz (p := ⟨gb506, 1, none⟩) (Kd.zz (p := ⟨gb506, 0, none⟩) (Kd.qw HO485.out BK506.out (by decide)) (fun _ hk => hk.2) (.int .i64 t488)) (fun _ hk => hk.2) (.slice Ao28 t489.length co28)) (fun _ hk => hk.2) (.int .i64 t492)) (fun _ hk => hk.2) (.slice Ao29 t493.length co29)) (fun _ hk => hk.2) (.slice Ao30 t496.length co30)) (fun _ hk => hk.2) (.slice Ao31 t499.length co31)) (fun _ hk => hk.2) (.slice Ao32 t502.length co32)) (fun _ hk => ⟨hk.1.1.1, ⟨hk.1.1.2, hk.1.2⟩⟩)⟩, ⟨by (with_reducible repeat (first | apply Kd.zn | apply Kd.zq | apply Kd.zu)); exact Kd.zR (Kd.zz (p := ⟨gb506, 6, none⟩) (Kd.zz (p := ⟨gb506, 5, none⟩) (Kd.zz (p := ⟨gb506, 4, none⟩) (Kd.zz (p := ⟨gb506, 3, none⟩) (Kd.zz (p := ⟨gb506, 2, none⟩) (Kd.zz (p := ⟨gb506, 1, none⟩) (Kd.zz (p := ⟨gb506, 0, none⟩) (Kd.qw HO491.out BK506.out (by decide)) (fun _ hk => hk.2) (.int .i64 t488)) (fun _ hk => hk.2) (.slice Ao28 t489.length co28)) (fun _ hk => hk.2) (.int .i64 t492)) (fun _ hk => hk.2) (.slice Ao29 t493.length co29)) (fun _ hk => hk.2) (.slice Ao30 t496.length co30)) (fun _ hk => hk.2) (.slice Ao31 t499.length co31)) (fun _ hk => hk.2) (.slice Ao32 t502.length co32)) (fun _ hk => hk.1.2)⟩, ⟨by (with_reducible repeat (first | apply Kd.zn | apply Kd.zq | apply Kd.zu)); exact Kd.zR (Kd.zz (p := ⟨gb506, 6, none⟩) (Kd.zz (p := ⟨gb506, 5, none⟩) (Kd.zz (p := ⟨gb506, 4, none⟩) (Kd.zz (p := ⟨gb506, 3, none⟩) (Kd.zz (p := ⟨gb506, 2, none⟩) (Kd.zz (p := ⟨gb506, 1, none⟩) (Kd.zz (p := ⟨gb506, 0, none⟩) (Kd.qw HO495.out BK506.out (by decide)) (fun _ hk => hk.2) (.int .i64 t488)) (fun _ hk => hk.2) (.slice Ao28 t489.length co28)) (fun _ hk => hk.2) (.int .i64 t492)) (fun _ hk => hk.2) (.slice Ao29 t493.length co29)) (fun _ hk => hk.2) (.slice Ao30 t496.length co30)) (fun _ hk => hk.2) (.slice Ao31 t499.length co31)) (fun _ hk => hk.2) (.slice Ao32 t502.length co32)) (fun _ hk => ⟨hk.1.1.2, ⟨hk.1.2, hk.1.1.1⟩⟩)⟩, ⟨by (with_reducible repeat (first | apply Kd.zn | apply Kd.zq | apply Kd.zu)); exact Kd.zR (Kd.zz (p := ⟨gb506, 6, none⟩) (Kd.zz (p := ⟨gb506, 5, none⟩) (Kd.zz (p := ⟨gb506, 4, none⟩) (Kd.zz (p := ⟨gb506, 3, none⟩) (Kd.zz (p := ⟨gb506, 2, none⟩) (Kd.zz (p := ⟨gb506, 1, none⟩) (Kd.zz (p := ⟨gb506, 0, none⟩) (Kd.qw HO498.out BK506.out (by decide)) (fun _ hk => hk.2) (.int .i64 t488)) (fun _ hk => hk.2) (.slice Ao28 t489.length co28)) (fun _ hk => hk.2) (.int .i64 t492)) (fun _ hk => hk.2) (.slice Ao29 t493.length co29)) (fun _ hk => hk.2) (.slice Ao30 t496.length co30)) (fun _ hk => hk.2) (.slice Ao31 t499.length co31)) (fun _ hk => hk.2) (.slice Ao32 t502.length co32)) (fun _ hk => ⟨hk.1.1.2, ⟨hk.1.2, hk.1.1.1⟩⟩)⟩, ⟨by (with_reducible repeat (first | apply Kd.zn | apply Kd.zq | apply Kd.zu)); exact Kd.zR (Kd.zz (p := ⟨gb506, 6, none⟩) (Kd.zz (p := ⟨gb506, 5, none⟩) (Kd.zz (p := ⟨gb506, 4, none⟩) (Kd.zz (p := ⟨gb506, 3, none⟩) (Kd.zz (p := ⟨gb506, 2, none⟩) (Kd.zz (p := ⟨gb506, 1, none⟩) (Kd.zz (p := ⟨gb506, 0, none⟩) (Kd.qw HO501.out BK506.out (by decide)) (fun _ hk => hk.2) (.int .i64 t488)) (fun _ hk => hk.2) (.slice Ao28 t489.length co28)) (fun _ hk => hk.2) (.int .i64 t492)) (fun _ hk => hk.2) (.slice Ao29 t493.length co29)) (fun _ hk => hk.2) (.slice Ao30 t496.length co30)) (fun _ hk => hk.2) (.slice Ao31 t499.length co31)) (fun _ hk => hk.2) (.slice Ao32 t502.length co32)) (fun _ hk => ⟨hk.1.1.2, ⟨hk.1.2, ⟨hk.1.1.1.1, hk.1.1.1.2⟩⟩⟩)⟩, ⟨by (with_reducible repeat (first | apply Kd.zn | apply Kd.zq | apply Kd.zu)); exact Kd.zR (Kd.zz (p := ⟨gb506, 6, none⟩) (Kd.zz (p := ⟨gb506, 5, none⟩) (Kd.zz (p := ⟨gb506, 4, none⟩) (Kd.zz (p := ⟨gb506, 3, none⟩) (Kd.zz (p := ⟨gb506, 2, none⟩) (Kd.zz (p := ⟨gb506, 1, none⟩) (Kd.zz (p := ⟨gb506, 0, none⟩) (Kd.qw HO504.out BK506.out (by decide)) (fun _ hk => hk.2) (.int .i64 t488)) (fun _ hk => hk.2) (.slice Ao28 t489.length co28)) (fun _ hk => hk.2) (.int .i64 t492)) (fun _ hk => hk.2) (.slice Ao29 t493.length co29)) (fun _ hk => hk.2) (.slice Ao30 t496.length co30)) (fun _ hk => hk.2) (.slice Ao31 t499.length co31)) (fun _ hk => hk.2) (.slice Ao32 t502.length co32)) (fun _ hk => trivial)⟩, ⟨by (with_reducible repeat (first | refine zk ?_ _ | refine zm ?_ | refine zh ?_ _)); refine ql ?_ NB478_506.out _; (with_reducible repeat (first | refine zk ?_ _ | refine zm ?_ | refine zh ?_ _)); refine ql ?_ NB478_506.out _; (with_reducible repeat (first | refine zk ?_ _ | refine zm ?_ | refine zh ?_ _)); refine ql ?_ NB478_506.out _; (with_reducible repeat (first | refine zk ?_ _ | refine zm ?_ | refine zh ?_ _)); refine ql ?_ NB478_506.out _; (with_reducible repeat (first | refine zk ?_ _ | refine zm ?_ | refine zh ?_ _)); refine ql ?_ NB478_506.out _; (with_reducible repeat (first | refine zk ?_ _ | refine zm ?_ | refine zh ?_ _)); refine ql ?_ NB478_506.out _; (with_reducible repeat (first | refine zk ?_ _ | refine zm ?_ | refine zh ?_ _)); refine ql ?_ NB478_506.out _; (with_reducible repeat (first | refine zk ?_ _ | refine zm ?_ | refine zh ?_ _)); exact BK478.out⟩, ⟨by (with_reducible repeat (first | refine zk ?_ _ | refine zm ?_ | refine zh ?_ _)); refine ql ?_ NB487_506.out _; (with_reducible repeat (first | refine zk ?_ _ | refine zm ?_ | refine zh ?_ _)); refine ql ?_ NB487_506.out _; (with_reducible repeat (first | refine zk ?_ _ | refine zm ?_ | refine zh ?_ _)); refine ql ?_ NB487_506.out _; (with_reducible repeat (first | refine zk ?_ _ | refine zm ?_ | refine zh ?_ _)); refine ql ?_ NB487_506.out _; (with_reducible repeat (first | refine zk ?_ _ | refine zm ?_ | refine zh ?_ _)); refine ql ?_ NB487_506.out _; (with_reducible repeat (first | refine zk ?_ _ | refine zm ?_ | refine zh ?_ _)); refine ql ?_ NB487_506.out _; (with_reducible repeat (first | refine zk ?_ _ | refine zm ?_ | refine zh ?_ _)); refine ql ?_ NB487_506.out _; (with_reducible repeat (first | refine zk ?_ _ | refine zm ?_ | refine zh ?_ _)); exact BK487.out⟩, ⟨by (with_reducible repeat (first | refine zk ?_ _ | refine zm ?_ | refine zh ?_ _)); refine zX (cs := #[.int .i64 t488, .slice Ao28 t489.length co28, .int .i64 t492, .slice Ao29 t493.length co29, .slice Ao30 t496.length co30, .slice Ao31 t499.length co31, .slice none 0 0]) ?_ 6 _ rfl; (with_reducible repeat (first | refine zk ?_ _ | refine zm ?_ | refine zh ?_ _)); refine zX (cs := #[.int .i64 t488, .slice Ao28 t489.length co28, .int .i64 t492, .slice Ao29 t493.length co29, .slice Ao30 t496.length co30, .slice none 0 0, .slice none 0 0]) ?_ 5 _ rfl; (with_reducible repeat (first | refine zk ?_ _ | refine zm ?_ | refine zh ?_ _)); refine zX (cs := #[.int .i64 t488, .slice Ao28 t489.length co28, .int .i64 t492, .slice Ao29 t493.length co29, .slice none 0 0, .slice none 0 0, .slice none 0 0]) ?_ 4 _ rfl; (with_reducible repeat (first | refine zk ?_ _ | refine zm ?_ | refine zh ?_ _)); refine zX (cs := #[.int .i64 t488, .slice Ao28 t489.length co28, .int .i64 t492, .slice none 0 0, .slice none 0 0, .slice none 0 0, .slice none 0 0]) ?_ 3 _ rfl; (with_reducible repeat (first | refine zk ?_ _ | refine zm ?_ | refine zh ?_ _)); refine zX (cs := #[.int .i64 t488, .slice Ao28 t489.length co28, .int .i64 0, .slice none 0 0, .slice none 0 0, .slice none 0 0, .slice none 0 0]) ?_ 2 _ rfl; (with_reducible repeat (first | refine zk ?_ _ | refine zm ?_ | refine zh ?_ _)); refine zX (cs := #[.int .i64 t488, .slice none 0 0, .int .i64 0, .slice none 0 0, .slice none 0 0, .slice none 0 0, .slice none 0 0]) ?_ 1 _ rfl; (with_reducible repeat (first | refine zk ?_ _ | refine zm ?_ | refine zh ?_ _)); refine zX (cs := #[.int .i64 0, .slice none 0 0, .int .i64 0, .slice none 0 0, .slice none 0 0, .slice none 0 0, .slice none 0 0]) ?_ 0 _ rfl; (with_reducible repeat (first | refine zk ?_ _ | refine zm ?_ | refine zh ?_ _)); exact BK506.out⟩, ⟨by repeat (first | (with_reducible first | exact HB.out | apply zf | apply zb | apply zg | refine zi ?_ (zt.ge HI472.out) | refine zi ?_ GE478.out | refine zi ?_ GE487.out | refine zi ?_ GE506.out) | exact HB.out)⟩⟩
  case round =>
   clear H'
   try clear c1
   try clear c2
   try clear p2
   try clear c3
   try clear c8
   try clear c10
   try clear c11
   try clear c12
   try clear c13
   try clear c16
   try clear c17
   try clear c24
   try clear c25
   try clear c26
   try clear hcz12_0
   try clear hcz12_1
   try clear hcz18_0
   try clear hcz18_1
   try clear hcz18_2
   try clear hcz21_0
   try clear hcz21_1
   try clear hcz27_0
   try clear hcz27_1
   try clear hcz27_2
   try clear hcz27_3
   try clear hcz27_4
   try clear hcz27_5
   try clear hcz27_6
   try clear hfz12_0
   try clear hfz12_1
   try clear hfz18_0
   try clear hfz18_1
   try clear hfz18_2
   try clear hfz21_0
   try clear hfz21_1
   try clear hfz27_0
   try clear hfz27_1
   try clear hfz27_2
   try clear hfz27_3
   try clear hfz27_4
   try clear hfz27_5
   try clear hfz27_6
   obtain ⟨x8_1, x39_1, rfl, rfl, HA, HK1, HO_37, HO_479001, HO_488001, HO_488002, HO_507001, HO_507003, HO_507004, HO_507005, HO_507006, BK478, BK487, BK506, HB⟩ := hrel
   cases gk with
   | zero => exact absurd HA.out (by simp [zo.l0])
   | succ k1 =>
    have H := HA.out
    clear HA
    simp only [zo.l0] at H
    by_cases c33 : x39_1 < (t502.length : Int)
    ·rw [if_pos c33] at H
     have c33b0 : decide (x39_1 < (t502.length : Int)) = true := decide_eq_true c33
     clear c33
     by_cases c34 : 0 ≤ x39_1
     ·rw [if_pos c34] at H
      have c34b0 : decide (0 ≤ x39_1) = true := decide_eq_true c34
      clear c34
      by_cases c35 : x39_1 < (t502.length : Int)
      ·rw [if_pos c35] at H
       have c35b0 : decide (x39_1 < (t502.length : Int)) = true := decide_eq_true c35
       clear c35
       have H' := za.mk H
       clear H
       have p507 : 0 ≤ (x39_1 : Int) := of_decide_eq_true (by first | (with_reducible assumption) | assumption)
       have q507 : x39_1 < (t502.length : Int) := of_decide_eq_true (by first | (with_reducible assumption) | assumption)
       obtain ⟨ad507, A507_0, c507_0, e507, hx507_0, hl507_0, hi507_0⟩ := at_L10 (Kd.zO HO_37.out).2.2 x39_1 p507 q507
       cases e507
       obtain ⟨ce507, hce507, hMe507, hcc507⟩ := Kd.R_get HO_37.out [] x39_1 p507 (by first | exact q507 | exact of_decide_eq_true (by first | (with_reducible assumption) | assumption) | (have e_ := (Kd.zO HO_37.out).1; omega))
       obtain ⟨ve507_0, rfl, ge507_0⟩ := hMe507
       have hv507_0 := hcc507 0 _ rfl
       rw [Nat.add_zero, show ((Kd.slice 42 (Kd.slice 56 k56))).sz = 1 from rfl, Nat.mul_one] at hv507_0
       replace hv507_0 := Option.some.inj (hv507_0.symm.trans hx507_0)
       rw [hv507_0] at ge507_0
       have HL507_0 := za.mk (show Kd.R (Kd.slice 56 k56) 42 _ _ _ _ (Zc t502 x39_1) from ge507_0)
       clear hv507_0 ge507_0
       clear hcc507 hce507
       have HR507_0 := za.mk hi507_0
       have HC507_0 := za.mk hl507_0
       clear hi507_0 hl507_0
       replace p507 := eq_true p507
       replace q507 := eq_true q507
       go_wp2
       go_loopg [8, 45] k1 (fun kq v8 v45 w' => ∃ (x8_2 : Int) (x45_2 : Int), v8 = .int .i64 x8_2 ∧ v45 = .int .i64 x45_2 ∧ za (zo.l1 kq t505 x8_2 0 t502 (t502.length : Int) x39_1 (Zc t502 x39_1) ((Zc t502 x39_1).length : Int) x45_2 t473 t474 t479 t480 t483 = some r) ∧ za (kq ≤ k1) ∧ za (Kd.R (Kd.slice 42 (Kd.slice 56 k56)) 41 w' w.heap.size (fun _ => True) (.slice (some ad507) t502.length co32) t502) ∧ za (Kd.R k66 66 w' w.heap.size (fun k_ => some k_ ≠ ((.slice Ao28 t489.length co28) : Value).ownBlock) (.slice Ao13 t474.length co13) t474) ∧ za (Kd.R (Kd.int .i64) 3 w' w.heap.size (fun k_ => some k_ ≠ ((.slice Ao20 t483.length co20) : Value).ownBlock ∧ some k_ ≠ ((.slice Ao29 t493.length co29) : Value).ownBlock ∧ some k_ ≠ ((.slice Ao30 t496.length co30) : Value).ownBlock) (.slice Ao19 t480.length co19) t480) ∧ za (Kd.R (Kd.int .i64) 3 w' w.heap.size (fun k_ => some k_ ≠ ((.slice Ao19 t480.length co19) : Value).ownBlock ∧ some k_ ≠ ((.slice Ao29 t493.length co29) : Value).ownBlock ∧ some k_ ≠ ((.slice Ao30 t496.length co30) : Value).ownBlock) (.slice Ao20 t483.length co20) t483) ∧ za (Kd.R k66 66 w' w.heap.size (fun k_ => some k_ ≠ ((.slice Ao13 t474.length co13) : Value).ownBlock) (.slice Ao28 t489.length co28) t489) ∧ za (Kd.R (Kd.int .i64) 3 w' w.heap.size (fun k_ => some k_ ≠ ((.slice Ao19 t480.length co19) : Value).ownBlock ∧ some k_ ≠ ((.slice Ao20 t483.length co20) : Value).ownBlock ∧ some k_ ≠ ((.slice Ao30 t496.length co30) : Value).ownBlock) (.slice Ao29 t493.length co29) t493) ∧ za (Kd.R (Kd.int .i64) 3 w' w.heap.size (fun k_ => some k_ ≠ ((.slice Ao19 t480.length co19) : Value).ownBlock ∧ some k_ ≠ ((.slice Ao20 t483.length co20) : Value).ownBlock ∧ some k_ ≠ ((.slice Ao29 t493.length co29) : Value).ownBlock) (.slice Ao30 t496.length co30) t496) ∧ za (Kd.R (Kd.slice 3 (Kd.int .i64)) 22 w' w.heap.size (fun k_ => some k_ ≠ ((.slice Ao19 t480.length co19) : Value).ownBlock ∧ some k_ ≠ ((.slice Ao20 t483.length co20) : Value).ownBlock ∧ some k_ ≠ ((.slice Ao29 t493.length co29) : Value).ownBlock ∧ some k_ ≠ ((.slice Ao30 t496.length co30) : Value).ownBlock) (.slice Ao31 t499.length co31) t499) ∧ za (Kd.R (Kd.slice 42 (Kd.slice 56 k56)) 41 w' w.heap.size (fun _ => True) (.slice (some ad507) t502.length co32) t502) ∧ za (w'.heap[gb478]? = some (.cells #[.int .i64 t473, (.slice Ao13 t474.length co13)] 29 (0, 0))) ∧ za (w'.heap[gb487]? = some (.cells #[.int .i64 t479, (.slice Ao19 t480.length co19), (.slice Ao20 t483.length co20)] 32 (0, 0))) ∧ za (w'.heap[gb506]? = some (.cells #[.int .i64 t488, (.slice Ao28 t489.length co28), .int .i64 t492, (.slice Ao29 t493.length co29), (.slice Ao30 t496.length co30), (.slice Ao31 t499.length co31), (.slice (some ad507) t502.length co32)] 37 (0, 0))) ∧ za (Kd.C (Kd.slice 56 k56) w' A507_0 (Zc t502 x39_1).length (Zc t502 x39_1)) ∧ za (Below w.heap.size w w'))
       case atStart => exact ⟨(x8_1), (0), (by first | rfl | (simp; done) | (simp [*]; done)), (by first | rfl | (simp; done) | (simp [*]; done)), H', ⟨Nat.le_refl _⟩, ⟨by (with_reducible repeat (first | apply Kd.zn | apply Kd.zq | apply Kd.zu)); exact HO_37.out⟩, ⟨by (with_reducible repeat (first | apply Kd.zn | apply Kd.zq | apply Kd.zu)); exact HO_479001.out⟩, ⟨by (with_reducible repeat (first | apply Kd.zn | apply Kd.zq | apply Kd.zu)); exact HO_488001.out⟩, ⟨by (with_reducible repeat (first | apply Kd.zn | apply Kd.zq | apply Kd.zu)); exact HO_488002.out⟩, ⟨by (with_reducible repeat (first | apply Kd.zn | apply Kd.zq | apply Kd.zu)); exact HO_507001.out⟩, ⟨by (with_reducible repeat (first | apply Kd.zn | apply Kd.zq | apply Kd.zu)); exact HO_507003.out⟩, ⟨by (with_reducible repeat (first | apply Kd.zn | apply Kd.zq | apply Kd.zu)); exact HO_507004.out⟩, ⟨by (with_reducible repeat (first | apply Kd.zn | apply Kd.zq | apply Kd.zu)); exact HO_507005.out⟩, ⟨by (with_reducible repeat (first | apply Kd.zn | apply Kd.zq | apply Kd.zu)); exact HO_507006.out⟩, ⟨by (with_reducible repeat (first | refine zk ?_ _ | refine zm ?_ | refine zh ?_ _)); exact BK478.out⟩, ⟨by (with_reducible repeat (first | refine zk ?_ _ | refine zm ?_ | refine zh ?_ _)); exact BK487.out⟩, ⟨by (with_reducible repeat (first | refine zk ?_ _ | refine zm ?_ | refine zh ?_ _)); exact BK506.out⟩, ⟨by repeat (first | (with_reducible exact HR507_0.out) | (with_reducible refine Kd.qA ?_ _) | (with_reducible refine Kd.qz ?_ _) | (with_reducible refine Kd.qF ?_) | exact HR507_0.out)⟩, ⟨by repeat (first | (with_reducible first | exact HB.out | apply zf | apply zb | apply zg | refine zi ?_ GE478.out | refine zi ?_ GE487.out | refine zi ?_ GE506.out) | exact HB.out)⟩⟩
       case round =>
        clear H'
        try clear c1
        try clear c2
        try clear p2
        try clear c3
        try clear c5
        try clear p5
        try clear q5
        try clear hx5
        try clear c8
        try clear c10
        try clear c11
        try clear c12
        try clear c13
        try clear c16
        try clear c17
        try clear c24
        try clear c25
        try clear c26
        try clear c33
        try clear c33b0
        try clear c34
        try clear c34b0
        try clear c35
        try clear c35b0
        try clear hcz12_0
        try clear hcz12_1
        try clear hcz18_0
        try clear hcz18_1
        try clear hcz18_2
        try clear hcz21_0
        try clear hcz21_1
        try clear hcz27_0
        try clear hcz27_1
        try clear hcz27_2
        try clear hcz27_3
        try clear hcz27_4
        try clear hcz27_5
        try clear hcz27_6
        try clear hfz12_0
        try clear hfz12_1
        try clear hfz18_0
        try clear hfz18_1
        try clear hfz18_2
        try clear hfz21_0
        try clear hfz21_1
        try clear hfz27_0
        try clear hfz27_1
        try clear hfz27_2
        try clear hfz27_3
        try clear hfz27_4
        try clear hfz27_5
        try clear hfz27_6
        try clear hx507_0
        try clear p2
        try clear p507
        try clear q507
        obtain ⟨x8_2, x45_2, rfl, rfl, HA, HK2, HO_37, HO_479001, HO_488001, HO_488002, HO_507001, HO_507003, HO_507004, HO_507005, HO_507006, BK478, BK487, BK506, HR507_0, HB⟩ := hrel
        cases gk with
        | zero => exact absurd HA.out (by simp [zo.l1])
        | succ k2 =>
         have H := HA.out
         clear HA
         simp only [zo.l1] at H
         by_cases c36 : x45_2 < ((Zc t502 x39_1).length : Int)
         ·rw [if_pos c36] at H
          have c36b0 : decide (x45_2 < ((Zc t502 x39_1).length : Int)) = true := decide_eq_true c36
          clear c36
          by_cases c37 : 0 ≤ x45_2
          ·rw [if_pos c37] at H
           have c37b0 : decide (0 ≤ x45_2) = true := decide_eq_true c37
           clear c37
           by_cases c38 : x45_2 < ((Zc t502 x39_1).length : Int)
           ·rw [if_pos c38] at H
            have c38b0 : decide (x45_2 < ((Zc t502 x39_1).length : Int)) = true := decide_eq_true c38
            clear c38
            have H' := za.mk H
            clear H
            have p508 : 0 ≤ (x45_2 : Int) := of_decide_eq_true (by first | (with_reducible assumption) | assumption)
            have q508 : x45_2 < ((Zc t502 x39_1).length : Int) := of_decide_eq_true (by first | (with_reducible assumption) | assumption)
            obtain ⟨ad508, A508_0, c508_0, e508, hx508_0, hl508_0, hi508_0⟩ := at_L9 HR507_0.out x45_2 p508 q508
            cases e508
            skip
            have HR508_0 := za.mk hi508_0
            have HC508_0 := za.mk hl508_0
            clear hi508_0 hl508_0
            replace p508 := eq_true p508
            replace q508 := eq_true q508
            go_wp2
            go_roundg k2
            case measure => have := HK1.out; have := HK2.out; omega
            case rel => exact ⟨(wrap64 (x8_2 + ((rd_L9 (Zc t502 x39_1) x45_2).length : Int))), (wrap64 (x45_2 + 1)), (by first | rfl | (simp; done) | (simp [*]; done)), (by first | rfl | (simp; done) | (simp [*]; done)), H', ⟨by have := HK1.out; have := HK2.out; omega⟩, ⟨by (with_reducible repeat (first | apply Kd.zn | apply Kd.zq | apply Kd.zu)); exact HO_37.out⟩, ⟨by (with_reducible repeat (first | apply Kd.zn | apply Kd.zq | apply Kd.zu)); exact HO_479001.out⟩, ⟨by (with_reducible repeat (first | apply Kd.zn | apply Kd.zq | apply Kd.zu)); exact HO_488001.out⟩, ⟨by (with_reducible repeat (first | apply Kd.zn | apply Kd.zq | apply Kd.zu)); exact HO_488002.out⟩, ⟨by (with_reducible repeat (first | apply Kd.zn | apply Kd.zq | apply Kd.zu)); exact HO_507001.out⟩, ⟨by (with_reducible repeat (first | apply Kd.zn | apply Kd.zq | apply Kd.zu)); exact HO_507003.out⟩, ⟨by (with_reducible repeat (first | apply Kd.zn | apply Kd.zq | apply Kd.zu)); exact HO_507004.out⟩, ⟨by (with_reducible repeat (first | apply Kd.zn | apply Kd.zq | apply Kd.zu)); exact HO_507005.out⟩, ⟨by (with_reducible repeat (first | apply Kd.zn | apply Kd.zq | apply Kd.zu)); exact HO_507006.out⟩, ⟨by (with_reducible repeat (first | refine zk ?_ _ | refine zm ?_ | refine zh ?_ _)); exact BK478.out⟩, ⟨by (with_reducible repeat (first | refine zk ?_ _ | refine zm ?_ | refine zh ?_ _)); exact BK487.out⟩, ⟨by (with_reducible repeat (first | refine zk ?_ _ | refine zm ?_ | refine zh ?_ _)); exact BK506.out⟩, ⟨by repeat (first | (with_reducible exact HR507_0.out) | (with_reducible refine Kd.qA ?_ _) | (with_reducible refine Kd.qz ?_ _) | (with_reducible refine Kd.qF ?_) | exact HR507_0.out)⟩, ⟨by repeat (first | (with_reducible first | exact HB.out | apply zf | apply zb | apply zg | refine zi ?_ GE478.out | refine zi ?_ GE487.out | refine zi ?_ GE506.out) | exact HB.out)⟩⟩
           ·rw [if_neg c38] at H
            exact absurd H (by simp)
          ·rw [if_neg c37] at H
           exact absurd H (by simp)
         ·rw [if_neg c36] at H
          have c36b0 : decide (x45_2 < ((Zc t502 x39_1).length : Int)) = false := decide_eq_false c36
          clear c36
          have H' := za.mk H
          clear H
          go_wp2
          go_roundg k2
          case measure => have := HK1.out; have := HK2.out; omega
          case rel => exact ⟨(x8_2), (wrap64 (x39_1 + 1)), (by first | rfl | (simp; done) | (simp [*]; done)), (by first | rfl | (simp; done) | (simp [*]; done)), H', ⟨by have := HK1.out; have := HK2.out; omega⟩, ⟨by (with_reducible repeat (first | apply Kd.zn | apply Kd.zq | apply Kd.zu)); exact HO_37.out⟩, ⟨by (with_reducible repeat (first | apply Kd.zn | apply Kd.zq | apply Kd.zu)); exact HO_479001.out⟩, ⟨by (with_reducible repeat (first | apply Kd.zn | apply Kd.zq | apply Kd.zu)); exact HO_488001.out⟩, ⟨by (with_reducible repeat (first | apply Kd.zn | apply Kd.zq | apply Kd.zu)); exact HO_488002.out⟩, ⟨by (with_reducible repeat (first | apply Kd.zn | apply Kd.zq | apply Kd.zu)); exact HO_507001.out⟩, ⟨by (with_reducible repeat (first | apply Kd.zn | apply Kd.zq | apply Kd.zu)); exact HO_507003.out⟩, ⟨by (with_reducible repeat (first | apply Kd.zn | apply Kd.zq | apply Kd.zu)); exact HO_507004.out⟩, ⟨by (with_reducible repeat (first | apply Kd.zn | apply Kd.zq | apply Kd.zu)); exact HO_507005.out⟩, ⟨by (with_reducible repeat (first | apply Kd.zn | apply Kd.zq | apply Kd.zu)); exact HO_507006.out⟩, ⟨by (with_reducible repeat (first | refine zk ?_ _ | refine zm ?_ | refine zh ?_ _)); exact BK478.out⟩, ⟨by (with_reducible repeat (first | refine zk ?_ _ | refine zm ?_ | refine zh ?_ _)); exact BK487.out⟩, ⟨by (with_reducible repeat (first | refine zk ?_ _ | refine zm ?_ | refine zh ?_ _)); exact BK506.out⟩, ⟨by repeat (first | (with_reducible first | exact HB.out | apply zf | apply zb | apply zg | refine zi ?_ GE478.out | refine zi ?_ GE487.out | refine zi ?_ GE506.out) | exact HB.out)⟩⟩
      ·rw [if_neg c35] at H
       exact absurd H (by simp)
     ·rw [if_neg c34] at H
      exact absurd H (by simp)
    ·rw [if_neg c33] at H
     have c33b0 : decide (x39_1 < (t502.length : Int)) = false := decide_eq_false c33
     clear c33
     have H' := za.mk H
     clear H
     go_wp2
     go_loopg [9, 14] k1 (fun kq v9 v14 w' => ∃ (x9_2 : Int) (x14_2 : Int), v9 = .int .i64 x9_2 ∧ v14 = .int .i64 x14_2 ∧ za (zo.l2 kq t505 x8_1 x9_2 x14_2 t473 t474 t479 t480 t483 = some r) ∧ za (kq ≤ k1) ∧ za (Kd.R k66 66 w' w.heap.size (fun k_ => some k_ ≠ ((.slice Ao28 t489.length co28) : Value).ownBlock) (.slice Ao13 t474.length co13) t474) ∧ za (Kd.R (Kd.int .i64) 3 w' w.heap.size (fun k_ => some k_ ≠ ((.slice Ao20 t483.length co20) : Value).ownBlock ∧ some k_ ≠ ((.slice Ao29 t493.length co29) : Value).ownBlock ∧ some k_ ≠ ((.slice Ao30 t496.length co30) : Value).ownBlock) (.slice Ao19 t480.length co19) t480) ∧ za (Kd.R (Kd.int .i64) 3 w' w.heap.size (fun k_ => some k_ ≠ ((.slice Ao19 t480.length co19) : Value).ownBlock ∧ some k_ ≠ ((.slice Ao29 t493.length co29) : Value).ownBlock ∧ some k_ ≠ ((.slice Ao30 t496.length co30) : Value).ownBlock) (.slice Ao20 t483.length co20) t483) ∧ za (Kd.R k66 66 w' w.heap.size (fun k_ => some k_ ≠ ((.slice Ao13 t474.length co13) : Value).ownBlock) (.slice Ao28 t489.length co28) t489) ∧ za (Kd.R (Kd.int .i64) 3 w' w.heap.size (fun k_ => some k_ ≠ ((.slice Ao19 t480.length co19) : Value).ownBlock ∧ some k_ ≠ ((.slice Ao20 t483.length co20) : Value).ownBlock ∧ some k_ ≠ ((.slice Ao30 t496.length co30) : Value).ownBlock) (.slice Ao29 t493.length co29) t493) ∧ za (Kd.R (Kd.int .i64) 3 w' w.heap.size (fun k_ => some k_ ≠ ((.slice Ao19 t480.length co19) : Value).ownBlock ∧ some k_ ≠ ((.slice Ao20 t483.length co20) : Value).ownBlock ∧ some k_ ≠ ((.slice Ao29 t493.length co29) : Value).ownBlock) (.slice Ao30 t496.length co30) t496) ∧ za (Kd.R (Kd.slice 3 (Kd.int .i64)) 22 w' w.heap.size (fun k_ => some k_ ≠ ((.slice Ao19 t480.length co19) : Value).ownBlock ∧ some k_ ≠ ((.slice Ao20 t483.length co20) : Value).ownBlock ∧ some k_ ≠ ((.slice Ao29 t493.length co29) : Value).ownBlock ∧ some k_ ≠ ((.slice Ao30 t496.length co30) : Value).ownBlock) (.slice Ao31 t499.length co31) t499) ∧ za (Kd.R (Kd.slice 42 (Kd.slice 56 k56)) 41 w' w.heap.size (fun _ => True) (.slice Ao32 t502.length co32) t502) ∧ za (w'.heap[gb478]? = some (.cells #[.int .i64 t473, (.slice Ao13 t474.length co13)] 29 (0, 0))) ∧ za (w'.heap[gb487]? = some (.cells #[.int .i64 t479, (.slice Ao19 t480.length co19), (.slice Ao20 t483.length co20)] 32 (0, 0))) ∧ za (w'.heap[gb506]? = some (.cells #[.int .i64 t488, (.slice Ao28 t489.length co28), .int .i64 t492, (.slice Ao29 t493.length co29), (.slice Ao30 t496.length co30), (.slice Ao31 t499.length co31), (.slice Ao32 t502.length co32)] 37 (0, 0))) ∧ za (Below w.heap.size w w'))
     case atStart => exact ⟨(0), (0), (by first | rfl | (simp; done) | (simp [*]; done)), (by first | rfl | (simp; done) | (simp [*]; done)), H', ⟨Nat.le_refl _⟩, ⟨by (with_reducible repeat (first | apply Kd.zn | apply Kd.zq | apply Kd.zu)); exact HO_479001.out⟩, ⟨by (with_reducible repeat (first | apply Kd.zn | apply Kd.zq | apply Kd.zu)); exact HO_488001.out⟩, ⟨by (with_reducible repeat (first | apply Kd.zn | apply Kd.zq | apply Kd.zu)); exact HO_488002.out⟩, ⟨by (with_reducible repeat (first | apply Kd.zn | apply Kd.zq | apply Kd.zu)); exact HO_507001.out⟩, ⟨by (with_reducible repeat (first | apply Kd.zn | apply Kd.zq | apply Kd.zu)); exact HO_507003.out⟩, ⟨by (with_reducible repeat (first | apply Kd.zn | apply Kd.zq | apply Kd.zu)); exact HO_507004.out⟩, ⟨by (with_reducible repeat (first | apply Kd.zn | apply Kd.zq | apply Kd.zu)); exact HO_507005.out⟩, ⟨by (with_reducible repeat (first | apply Kd.zn | apply Kd.zq | apply Kd.zu)); exact HO_507006.out⟩, ⟨by (with_reducible repeat (first | refine zk ?_ _ | refine zm ?_ | refine zh ?_ _)); exact BK478.out⟩, ⟨by (with_reducible repeat (first | refine zk ?_ _ | refine zm ?_ | refine zh ?_ _)); exact BK487.out⟩, ⟨by (with_reducible repeat (first | refine zk ?_ _ | refine zm ?_ | refine zh ?_ _)); exact BK506.out⟩, ⟨by repeat (first | (with_reducible first | exact HB.out | apply zf | apply zb | apply zg | refine zi ?_ GE478.out | refine zi ?_ GE487.out | refine zi ?_ GE506.out) | exact HB.out)⟩⟩
     case round =>
      clear H'
      try clear c1
      try clear c2
      try clear p2
      try clear c3
      try clear c5
      try clear p5
      try clear q5
      try clear hx5
      try clear p6
      try clear c8
      try clear c10
      try clear c11
      try clear c12
      try clear c13
      try clear c16
      try clear c17
      try clear c24
      try clear c25
      try clear c26
      try clear c33
      try clear c33b0
      try clear c34
      try clear c34b0
      try clear c35
      try clear c35b0
      try clear c36
      try clear c36b0
      try clear c37
      try clear c37b0
      try clear c38
      try clear c38b0
      try clear hcz12_0
      try clear hcz12_1
      try clear hcz18_0
      try clear hcz18_1
      try clear hcz18_2
      try clear hcz21_0
      try clear hcz21_1
      try clear hcz27_0
      try clear hcz27_1
      try clear hcz27_2
      try clear hcz27_3
      try clear hcz27_4
      try clear hcz27_5
      try clear hcz27_6
      try clear hfz12_0
      try clear hfz12_1
      try clear hfz18_0
      try clear hfz18_1
      try clear hfz18_2
      try clear hfz21_0
      try clear hfz21_1
      try clear hfz27_0
      try clear hfz27_1
      try clear hfz27_2
      try clear hfz27_3
      try clear hfz27_4
      try clear hfz27_5
      try clear hfz27_6
      try clear hx507_0
      try clear hx508_0
      try clear p2
      try clear p5
      try clear p507
      try clear p508
      try clear q5
      try clear q507
      try clear q508
      obtain ⟨x9_2, x14_2, rfl, rfl, HA, HK2, HO_479001, HO_488001, HO_488002, HO_507001, HO_507003, HO_507004, HO_507005, HO_507006, BK478, BK487, BK506, HB⟩ := hrel
      cases gk with
      | zero => exact absurd HA.out (by simp [zo.l2])
      | succ k2 =>
       have H := HA.out
       clear HA
       simp only [zo.l2] at H
       by_cases c39 : x14_2 < t473
       ·rw [if_pos c39] at H
        have c39b0 : decide (x14_2 < t473) = true := decide_eq_true c39
        clear c39
        replace H := Option.bind_eq_some_iff.mp H
        obtain ⟨t511, A400, H⟩ := H
        replace H : (zo.l3 k2 t505 x8_1 x9_2 x14_2 ([] : List Int) t511 (t511.length : Int) 0 t473 t474 t479 t480 t483) = some r := H
        have A40 := za.mk A400
        clear A400
        have H' := za.mk H
        clear H
        have hnb41 := NB478_487.out
        have hnc41 := NB487_478.out
        have hnb42 := NB478_506.out
        have hnc42 := NB506_478.out
        have hcz43_0 : wr.cell? ⟨gb478, 0, none⟩ = some (.int .i64 t473) := (ze BK478.out 0).trans rfl
        have hcz43_1 : wr.cell? ⟨gb478, 1, none⟩ = some (.slice Ao13 t474.length co13) := (ze BK478.out 1).trans rfl
        have hfz43_0 := zl BK478.out 0
        have hfz43_1 := zl BK478.out 1
        go_wp2_with (first | ((with_reducible refine qc (f := 14) rfl ?_); refine qU (some 63) rfl rfl Try.func14 (by kernel_rfl) rfl #[.agg #[.int .i64 t473, .slice Ao13 t474.length co13], .int .i64 x14_2] rfl (by (try simp only [List.map_toArray, List.map_cons, List.map_nil]); first | done | rfl | (simp only [List.length_drop, List.length_take]; rfl)) ?_; (with_reducible refine (zA.calls k2 t473 _ _ t474 x14_2 t511 _ ?side1 ?side2 A40.out).mono ?_); (case side1 => repeat (first | exact (Kd.zO HO_479001.out).2.2 | (with_reducible refine Kd.qA ?_ _) | (with_reducible refine Kd.qz ?_ _) | (with_reducible refine Kd.qF ?_))); (case side2 => exact (Kd.zO HO_479001.out).2.1); rintro e w44 ⟨v512, rfl, ho0, hb⟩; refine ⟨_, rfl, ?_⟩; have n0_ := za.mk (Kd.zL (by (with_reducible repeat (first | apply Kd.zn | apply Kd.zq | apply Kd.zu)); exact HO_479001.out) hb); have n1_ := za.mk (Kd.qG (by (with_reducible repeat (first | apply Kd.zn | apply Kd.zq | apply Kd.zu)); exact HO_488001.out) (Kd.qL ho0) hb); have n2_ := za.mk (Kd.qG (by (with_reducible repeat (first | apply Kd.zn | apply Kd.zq | apply Kd.zu)); exact HO_488002.out) (Kd.qL ho0) hb); have n3_ := za.mk (Kd.zL (by (with_reducible repeat (first | apply Kd.zn | apply Kd.zq | apply Kd.zu)); exact HO_507001.out) hb); have n4_ := za.mk (Kd.qG (by (with_reducible repeat (first | apply Kd.zn | apply Kd.zq | apply Kd.zu)); exact HO_507003.out) (Kd.qL ho0) hb); have n5_ := za.mk (Kd.qG (by (with_reducible repeat (first | apply Kd.zn | apply Kd.zq | apply Kd.zu)); exact HO_507004.out) (Kd.qL ho0) hb); have n6_ := za.mk (Kd.qG (by (with_reducible repeat (first | apply Kd.zn | apply Kd.zq | apply Kd.zu)); exact HO_507005.out) (Kd.qL ho0) hb); have n7_ := za.mk (Kd.zL (by (with_reducible repeat (first | apply Kd.zn | apply Kd.zq | apply Kd.zu)); exact HO_507006.out) hb); have n8_ := za.mk (Kd.qM (Kd.qN (Kd.qN (Kd.qN (Kd.qN ho0 (Kd.R_lt (by (with_reducible repeat (first | apply Kd.zn | apply Kd.zq | apply Kd.zu)); exact HO_488001.out))) (Kd.R_lt (by (with_reducible repeat (first | apply Kd.zn | apply Kd.zq | apply Kd.zu)); exact HO_488002.out))) (Kd.R_lt (by (with_reducible repeat (first | apply Kd.zn | apply Kd.zq | apply Kd.zu)); exact HO_507003.out))) (Kd.R_lt (by (with_reducible repeat (first | apply Kd.zn | apply Kd.zq | apply Kd.zu)); exact HO_507004.out))) (zB (by repeat (first | (with_reducible first | exact HB.out | apply zf | apply zb | apply zg | refine zi ?_ GE478.out | refine zi ?_ GE487.out | refine zi ?_ GE506.out) | exact HB.out)))); have n9_ := za.mk (zW (g := gb478) (o := .cells #[.int .i64 t473, .slice Ao13 t474.length co13] 29 (0, 0)) (by (with_reducible repeat (first | refine zk ?_ _ | refine zm ?_ | refine zh ?_ _)); exact BK478.out) hb); have n10_ := za.mk (zW (g := gb487) (o := .cells #[.int .i64 t479, .slice Ao19 t480.length co19, .slice Ao20 t483.length co20] 32 (0, 0)) (by (with_reducible repeat (first | refine zk ?_ _ | refine zm ?_ | refine zh ?_ _)); exact BK487.out) hb); have n11_ := za.mk (zW (g := gb506) (o := .cells #[.int .i64 t488, .slice Ao28 t489.length co28, .int .i64 t492, .slice Ao29 t493.length co29, .slice Ao30 t496.length co30, .slice Ao31 t499.length co31, .slice Ao32 t502.length co32] 37 (0, 0)) (by (with_reducible repeat (first | refine zk ?_ _ | refine zm ?_ | refine zh ?_ _)); exact BK506.out) hb); have n12_ := za.mk (zT (by repeat (first | (with_reducible first | exact HB.out | apply zf | apply zb | apply zg | refine zi ?_ GE478.out | refine zi ?_ GE487.out | refine zi ?_ GE506.out) | exact HB.out)) hb); clear HO_479001; clear HO_488001; clear HO_488002; clear HO_507001; clear HO_507003; clear HO_507004; clear HO_507005; clear HO_507006; clear BK478; clear BK487; clear BK506; clear HB; have HO_479001 := n0_; have HO_488001 := n1_; have HO_488002 := n2_; have HO_507001 := n3_; have HO_507003 := n4_; have HO_507004 := n5_; have HO_507005 := n6_; have HO_507006 := n7_; have HO513 := n8_; have BK478 := n9_; have BK487 := n10_; have BK506 := n11_; have HB := n12_; clear n0_ n1_ n2_ n3_ n4_ n5_ n6_ n7_ n8_ n9_ n10_ n11_ n12_; (try clear hb); (try clear hb2); (try clear hk); (try clear hi); (try clear ho0); obtain ⟨Ao45, co45, eo45⟩ := Kd.qC HO513.out; subst eo45))
        go_loopg [15, 65] k2 (fun kq v15 v65 w' => ∃ (x15_3 : List Int) (x65_3 : Int), v65 = .int .i64 x65_3 ∧ za (zo.l3 kq t505 x8_1 x9_2 x14_2 x15_3 t511 (t511.length : Int) x65_3 t473 t474 t479 t480 t483 = some r) ∧ za (kq ≤ k2) ∧ za (Kd.R (Kd.int .i64) 3 w' w.heap.size (fun k_ => some k_ ≠ ((.slice Ao45 t511.length co45) : Value).ownBlock ∧ some k_ ≠ ((.slice Ao19 t480.length co19) : Value).ownBlock ∧ some k_ ≠ ((.slice Ao20 t483.length co20) : Value).ownBlock ∧ some k_ ≠ ((.slice Ao29 t493.length co29) : Value).ownBlock ∧ some k_ ≠ ((.slice Ao30 t496.length co30) : Value).ownBlock) v15 x15_3) ∧ za (Kd.R (Kd.int .i64) 3 w' w.heap.size (fun k_ => some k_ ≠ (v15 : Value).ownBlock ∧ some k_ ≠ ((.slice Ao19 t480.length co19) : Value).ownBlock ∧ some k_ ≠ ((.slice Ao20 t483.length co20) : Value).ownBlock ∧ some k_ ≠ ((.slice Ao29 t493.length co29) : Value).ownBlock ∧ some k_ ≠ ((.slice Ao30 t496.length co30) : Value).ownBlock) (.slice Ao45 t511.length co45) t511) ∧ za (Kd.R k66 66 w' w.heap.size (fun k_ => some k_ ≠ ((.slice Ao28 t489.length co28) : Value).ownBlock) (.slice Ao13 t474.length co13) t474) ∧ za (Kd.R (Kd.int .i64) 3 w' w.heap.size (fun k_ => some k_ ≠ (v15 : Value).ownBlock ∧ some k_ ≠ ((.slice Ao45 t511.length co45) : Value).ownBlock ∧ some k_ ≠ ((.slice Ao20 t483.length co20) : Value).ownBlock ∧ some k_ ≠ ((.slice Ao29 t493.length co29) : Value).ownBlock ∧ some k_ ≠ ((.slice Ao30 t496.length co30) : Value).ownBlock) (.slice Ao19 t480.length co19) t480) ∧ za (Kd.R (Kd.int .i64) 3 w' w.heap.size (fun k_ => some k_ ≠ (v15 : Value).ownBlock ∧ some k_ ≠ ((.slice Ao45 t511.length co45) : Value).ownBlock ∧ some k_ ≠ ((.slice Ao19 t480.length co19) : Value).ownBlock ∧ some k_ ≠ ((.slice Ao29 t493.length co29) : Value).ownBlock ∧ some k_ ≠ ((.slice Ao30 t496.length co30) : Value).ownBlock) (.slice Ao20 t483.length co20) t483) ∧ za (Kd.R k66 66 w' w.heap.size (fun k_ => some k_ ≠ ((.slice Ao13 t474.length co13) : Value).ownBlock) (.slice Ao28 t489.length co28) t489) ∧ za (Kd.R (Kd.int .i64) 3 w' w.heap.size (fun k_ => some k_ ≠ (v15 : Value).ownBlock ∧ some k_ ≠ ((.slice Ao45 t511.length co45) : Value).ownBlock ∧ some k_ ≠ ((.slice Ao19 t480.length co19) : Value).ownBlock ∧ some k_ ≠ ((.slice Ao20 t483.length co20) : Value).ownBlock ∧ some k_ ≠ ((.slice Ao30 t496.length co30) : Value).ownBlock) (.slice Ao29 t493.length co29) t493) ∧ za (Kd.R (Kd.int .i64) 3 w' w.heap.size (fun k_ => some k_ ≠ (v15 : Value).ownBlock ∧ some k_ ≠ ((.slice Ao45 t511.length co45) : Value).ownBlock ∧ some k_ ≠ ((.slice Ao19 t480.length co19) : Value).ownBlock ∧ some k_ ≠ ((.slice Ao20 t483.length co20) : Value).ownBlock ∧ some k_ ≠ ((.slice Ao29 t493.length co29) : Value).ownBlock) (.slice Ao30 t496.length co30) t496) ∧ za (Kd.R (Kd.slice 3 (Kd.int .i64)) 22 w' w.heap.size (fun k_ => some k_ ≠ (v15 : Value).ownBlock ∧ some k_ ≠ ((.slice Ao45 t511.length co45) : Value).ownBlock ∧ some k_ ≠ ((.slice Ao19 t480.length co19) : Value).ownBlock ∧ some k_ ≠ ((.slice Ao20 t483.length co20) : Value).ownBlock ∧ some k_ ≠ ((.slice Ao29 t493.length co29) : Value).ownBlock ∧ some k_ ≠ ((.slice Ao30 t496.length co30) : Value).ownBlock) (.slice Ao31 t499.length co31) t499) ∧ za (Kd.R (Kd.slice 42 (Kd.slice 56 k56)) 41 w' w.heap.size (fun _ => True) (.slice Ao32 t502.length co32) t502) ∧ za (w'.heap[gb478]? = some (.cells #[.int .i64 t473, (.slice Ao13 t474.length co13)] 29 (0, 0))) ∧ za (w'.heap[gb487]? = some (.cells #[.int .i64 t479, (.slice Ao19 t480.length co19), (.slice Ao20 t483.length co20)] 32 (0, 0))) ∧ za (w'.heap[gb506]? = some (.cells #[.int .i64 t488, (.slice Ao28 t489.length co28), .int .i64 t492, (.slice Ao29 t493.length co29), (.slice Ao30 t496.length co30), (.slice Ao31 t499.length co31), (.slice Ao32 t502.length co32)] 37 (0, 0))) ∧ za (Below w.heap.size w w'))
        case atStart => exact ⟨(([] : List Int)), (0), (by first | rfl | (simp; done) | (simp [*]; done)), H', ⟨Nat.le_refl _⟩, ⟨by first | exact Kd.ZO _ _ _ _ _ | exact Kd.N_nil _ _ _ _ _ | exact Kd.V_nil _ _ _ _ _ | exact Kd.Q_nil _ _ _ _ _ | exact Kd.S_nil _ _ _ _ _⟩, ⟨by (with_reducible repeat (first | apply Kd.zn | apply Kd.zq | apply Kd.zu)); exact Kd.zR HO513.out (fun _ hk => ⟨(by simp [Value.ownBlock]), ⟨hk.1.1.1.2, ⟨hk.1.1.2, ⟨hk.1.2, hk.2⟩⟩⟩⟩)⟩, ⟨by (with_reducible repeat (first | apply Kd.zn | apply Kd.zq | apply Kd.zu)); exact HO_479001.out⟩, ⟨by (with_reducible repeat (first | apply Kd.zn | apply Kd.zq | apply Kd.zu)); exact Kd.zR HO_488001.out (fun _ hk => ⟨(by simp [Value.ownBlock]), ⟨hk.2, ⟨hk.1.1, ⟨hk.1.2.1, hk.1.2.2⟩⟩⟩⟩)⟩, ⟨by (with_reducible repeat (first | apply Kd.zn | apply Kd.zq | apply Kd.zu)); exact Kd.zR HO_488002.out (fun _ hk => ⟨(by simp [Value.ownBlock]), ⟨hk.2, ⟨hk.1.1, ⟨hk.1.2.1, hk.1.2.2⟩⟩⟩⟩)⟩, ⟨by (with_reducible repeat (first | apply Kd.zn | apply Kd.zq | apply Kd.zu)); exact HO_507001.out⟩, ⟨by (with_reducible repeat (first | apply Kd.zn | apply Kd.zq | apply Kd.zu)); exact Kd.zR HO_507003.out (fun _ hk => ⟨(by simp [Value.ownBlock]), ⟨hk.2, ⟨hk.1.1, ⟨hk.1.2.1, hk.1.2.2⟩⟩⟩⟩)⟩, ⟨by (with_reducible repeat (first | apply Kd.zn | apply Kd.zq | apply Kd.zu)); exact Kd.zR HO_507004.out (fun _ hk => ⟨(by simp [Value.ownBlock]), ⟨hk.2, ⟨hk.1.1, ⟨hk.1.2.1, hk.1.2.2⟩⟩⟩⟩)⟩, ⟨by (with_reducible repeat (first | apply Kd.zn | apply Kd.zq | apply Kd.zu)); exact Kd.zR HO_507005.out (fun _ hk => ⟨(by simp [Value.ownBlock]), ⟨hk.2, ⟨hk.1.1, ⟨hk.1.2.1, ⟨hk.1.2.2.1, hk.1.2.2.2⟩⟩⟩⟩⟩)⟩, ⟨by (with_reducible repeat (first | apply Kd.zn | apply Kd.zq | apply Kd.zu)); exact HO_507006.out⟩, ⟨by (with_reducible repeat (first | refine zk ?_ _ | refine zm ?_ | refine zh ?_ _)); exact BK478.out⟩, ⟨by (with_reducible repeat (first | refine zk ?_ _ | refine zm ?_ | refine zh ?_ _)); exact BK487.out⟩, ⟨by (with_reducible repeat (first | refine zk ?_ _ | refine zm ?_ | refine zh ?_ _)); exact BK506.out⟩, ⟨by repeat (first | (with_reducible first | exact HB.out | apply zf | apply zb | apply zg | refine zi ?_ GE478.out | refine zi ?_ GE487.out | refine zi ?_ GE506.out) | exact HB.out)⟩⟩
        case round =>
         clear H'
         try clear c1
         try clear c2
         try clear p2
         try clear c3
         try clear c4
         try clear c5
         try clear p5
         try clear q5
         try clear hx5
         try clear p6
         try clear c8
         try clear c10
         try clear c11
         try clear c12
         try clear c13
         try clear c14
         try clear c16
         try clear c17
         try clear c24
         try clear c25
         try clear c26
         try clear c33
         try clear c33b0
         try clear c34
         try clear c34b0
         try clear c35
         try clear c35b0
         try clear c36
         try clear c36b0
         try clear c37
         try clear c37b0
         try clear c38
         try clear c38b0
         try clear c39
         try clear c39b0
         try clear c41
         try clear c42
         try clear hcz12_0
         try clear hcz12_1
         try clear hcz18_0
         try clear hcz18_1
         try clear hcz18_2
         try clear hcz21_0
         try clear hcz21_1
         try clear hcz27_0
         try clear hcz27_1
         try clear hcz27_2
         try clear hcz27_3
         try clear hcz27_4
         try clear hcz27_5
         try clear hcz27_6
         try clear hcz43_0
         try clear hcz43_1
         try clear hfz12_0
         try clear hfz12_1
         try clear hfz18_0
         try clear hfz18_1
         try clear hfz18_2
         try clear hfz21_0
         try clear hfz21_1
         try clear hfz27_0
         try clear hfz27_1
         try clear hfz27_2
         try clear hfz27_3
         try clear hfz27_4
         try clear hfz27_5
         try clear hfz27_6
         try clear hfz43_0
         try clear hfz43_1
         try clear hx507_0
         try clear hx508_0
         try clear p2
         try clear p5
         try clear p507
         try clear p508
         try clear p6
         try clear q5
         try clear q507
         try clear q508
         obtain ⟨x15_3, x65_3, rfl, HA, HK3, HO_15, HO_63, HO_479001, HO_488001, HO_488002, HO_507001, HO_507003, HO_507004, HO_507005, HO_507006, BK478, BK487, BK506, HB⟩ := hrel
         cases gk with
         | zero => exact absurd HA.out (by simp [zo.l3])
         | succ k3 =>
          have H := HA.out
          clear HA
          simp only [zo.l3] at H
          by_cases c46 : x65_3 < (t511.length : Int)
          ·rw [if_pos c46] at H
           have c46b0 : decide (x65_3 < (t511.length : Int)) = true := decide_eq_true c46
           clear c46
           by_cases c47 : 0 ≤ x65_3
           ·rw [if_pos c47] at H
            have c47b0 : decide (0 ≤ x65_3) = true := decide_eq_true c47
            clear c47
            by_cases c48 : x65_3 < (t511.length : Int)
            ·rw [if_pos c48] at H
             have c48b0 : decide (x65_3 < (t511.length : Int)) = true := decide_eq_true c48
             clear c48
             by_cases c49 : 0 ≤ (rd t511 x65_3)
             ·rw [if_pos c49] at H
              have c49b0 : decide (0 ≤ (rd t511 x65_3)) = true := decide_eq_true c49
              clear c49
              by_cases c50 : (rd t511 x65_3) < (t480.length : Int)
              ·rw [if_pos c50] at H
               have c50b0 : decide ((rd t511 x65_3) < (t480.length : Int)) = true := decide_eq_true c50
               clear c50
               by_cases c51 : x15_3.length < 17592186044416
               ·rw [if_pos c51] at H
                have LMc51 := za.mk c51
                clear c51
                obtain ⟨y516, hy516⟩ : ∃ y_ : List Int, y_ = (x15_3 ++ [rd t480 (rd t511 x65_3)]) := ⟨_, rfl⟩
                replace H : (zo.l3 k3 t505 x8_1 x9_2 x14_2 y516 t511 (t511.length : Int) (wrap64 (x65_3 + 1)) t473 t474 t479 t480 t483) = some r := by first | (rw [hy516]; with_reducible exact H) | (have H2_ := (Option.bind_some _ _).symm.trans H; rw [hy516]; with_reducible exact H2_) | (have H2_ := (Option.bind_some _ _).symm.trans H; with_reducible exact H2_) | with_reducible exact H | (rw [hy516]; exact H) | exact H
                have Ny516 := za.mk hy516
                clear hy516
                have H' := za.mk H
                clear H
                have p514 : 0 ≤ (x65_3 : Int) := of_decide_eq_true (by first | (with_reducible assumption) | assumption)
                have q514 : x65_3 < (t511.length : Int) := of_decide_eq_true (by first | (with_reducible assumption) | assumption)
                obtain ⟨ad514, e514, hx514_0⟩ := Kd.qX (Kd.zO HO_63.out).2.2 x65_3 p514 q514
                cases e514
                replace p514 := eq_true p514
                replace q514 := eq_true q514
                have hnb52 := NB487_478.out
                have hnc52 := NB478_487.out
                have hnb53 := NB487_506.out
                have hnc53 := NB506_487.out
                have hcz54_0 : wr.cell? ⟨gb487, 0, none⟩ = some (.int .i64 t479) := (ze BK487.out 0).trans rfl
                have hcz54_1 : wr.cell? ⟨gb487, 1, none⟩ = some (.slice Ao19 t480.length co19) := (ze BK487.out 1).trans rfl
                have hcz54_2 : wr.cell? ⟨gb487, 2, none⟩ = some (.slice Ao20 t483.length co20) := (ze BK487.out 2).trans rfl
                have hfz54_0 := zl BK487.out 0
                have hfz54_1 := zl BK487.out 1
                have hfz54_2 := zl BK487.out 2
                have p515 : 0 ≤ ((rd t511 x65_3) : Int) := of_decide_eq_true (by first | (with_reducible assumption) | assumption)
                have q515 : (rd t511 x65_3) < (t480.length : Int) := of_decide_eq_true (by first | (with_reducible assumption) | assumption)
                obtain ⟨ad515, e515, hx515_0⟩ := Kd.qX (Kd.zO HO_488001.out).2.2 (rd t511 x65_3) p515 q515
                cases e515
                replace p515 := eq_true p515
                replace q515 := eq_true q515
                go_wp2_with (first | ((with_reducible refine Zb (b := .append) (xs := #[.tmp 69, .tmp 75]) rfl ?_); at_builtin; refine Kd.ZU (Kd.int .i64) (w0 := w) w.heap.size rfl (.tmp 69) (.tmp 75) 22 3 (.int .i64 0) 8 rfl Try.underlying22 info3 rfl (by decide) (by omega) u15 x15_3 (rd t480 (rd t511 x65_3)) [.int .i64 (rd t480 (rd t511 x65_3))] (fun k_ => some k_ ≠ (.slice (some ad514) t511.length co45 : Value).ownBlock ∧ some k_ ≠ (.slice (some ad515) t480.length co19 : Value).ownBlock ∧ some k_ ≠ (.slice Ao20 t483.length co20 : Value).ownBlock ∧ some k_ ≠ (.slice Ao29 t493.length co29 : Value).ownBlock ∧ some k_ ≠ (.slice Ao30 t496.length co30 : Value).ownBlock) (fun _ => False) rfl rfl ?aP (fun _ hk => hk.elim) ?aF ?aO ?aB ?aS ?aL ?_; (case aP => exact rfl); (case aB => exact (by repeat (first | (with_reducible first | exact HB.out | apply zf | apply zb | apply zg | refine zi ?_ GE478.out | refine zi ?_ GE487.out | refine zi ?_ GE506.out) | exact HB.out))); (case aF => exact (fun k_ hk => ⟨Kd.fresh' (Kd.R_lt (by (with_reducible repeat (first | apply Kd.zn | apply Kd.zq | apply Kd.zu)); exact HO_63.out)) k_ hk, Kd.fresh' (Kd.R_lt (by (with_reducible repeat (first | apply Kd.zn | apply Kd.zq | apply Kd.zu)); exact HO_488001.out)) k_ hk, Kd.fresh' (Kd.R_lt (by (with_reducible repeat (first | apply Kd.zn | apply Kd.zq | apply Kd.zu)); exact HO_488002.out)) k_ hk, Kd.fresh' (Kd.R_lt (by (with_reducible repeat (first | apply Kd.zn | apply Kd.zq | apply Kd.zu)); exact HO_507003.out)) k_ hk, Kd.fresh' (Kd.R_lt (by (with_reducible repeat (first | apply Kd.zn | apply Kd.zq | apply Kd.zu)); exact HO_507004.out)) k_ hk⟩)); (case aO => exact (by (with_reducible repeat (first | apply Kd.zn | apply Kd.zq | apply Kd.zu)); exact HO_15.out)); (case aS => exact (zB (by repeat (first | (with_reducible first | exact HB.out | apply zf | apply zb | apply zg | refine zi ?_ GE478.out | refine zi ?_ GE487.out | refine zi ?_ GE506.out) | exact HB.out)))); (case aL => have := LMc51.out; omega); intro v517 w55 ho hb hg hat; rw [← Ny516.out] at ho; have n0_ := za.mk (Kd.Zf (ok := (fun k_ => some k_ ≠ (.slice (some ad515) t480.length co19 : Value).ownBlock ∧ some k_ ≠ (.slice Ao20 t483.length co20 : Value).ownBlock ∧ some k_ ≠ (.slice Ao29 t493.length co29 : Value).ownBlock ∧ some k_ ≠ (.slice Ao30 t496.length co30 : Value).ownBlock)) (by (with_reducible repeat (first | apply Kd.zn | apply Kd.zq | apply Kd.zu)); exact Kd.zR HO_63.out (fun _ hk => ⟨⟨hk.2.1, ⟨hk.2.2.1, ⟨hk.2.2.2.1, hk.2.2.2.2⟩⟩⟩, hk.1⟩)) hg hat); have n1_ := za.mk (Kd.R_over' (by (with_reducible repeat (first | apply Kd.zn | apply Kd.zq | apply Kd.zu)); exact HO_479001.out) (Kd.R_typed (by (with_reducible repeat (first | apply Kd.zn | apply Kd.zq | apply Kd.zu)); exact HO_15.out)) (by decide) hg); have n2_ := za.mk (Kd.Zf (ok := (fun k_ => some k_ ≠ (.slice (some ad514) t511.length co45 : Value).ownBlock ∧ some k_ ≠ (.slice Ao20 t483.length co20 : Value).ownBlock ∧ some k_ ≠ (.slice Ao29 t493.length co29 : Value).ownBlock ∧ some k_ ≠ (.slice Ao30 t496.length co30 : Value).ownBlock)) (by (with_reducible repeat (first | apply Kd.zn | apply Kd.zq | apply Kd.zu)); exact Kd.zR HO_488001.out (fun _ hk => ⟨⟨hk.2.1, ⟨hk.2.2.1, ⟨hk.2.2.2.1, hk.2.2.2.2⟩⟩⟩, hk.1⟩)) hg hat); have n3_ := za.mk (Kd.Zf (ok := (fun k_ => some k_ ≠ (.slice (some ad514) t511.length co45 : Value).ownBlock ∧ some k_ ≠ (.slice (some ad515) t480.length co19 : Value).ownBlock ∧ some k_ ≠ (.slice Ao29 t493.length co29 : Value).ownBlock ∧ some k_ ≠ (.slice Ao30 t496.length co30 : Value).ownBlock)) (by (with_reducible repeat (first | apply Kd.zn | apply Kd.zq | apply Kd.zu)); exact Kd.zR HO_488002.out (fun _ hk => ⟨⟨hk.2.1, ⟨hk.2.2.1, ⟨hk.2.2.2.1, hk.2.2.2.2⟩⟩⟩, hk.1⟩)) hg hat); have n4_ := za.mk (Kd.R_over' (by (with_reducible repeat (first | apply Kd.zn | apply Kd.zq | apply Kd.zu)); exact HO_507001.out) (Kd.R_typed (by (with_reducible repeat (first | apply Kd.zn | apply Kd.zq | apply Kd.zu)); exact HO_15.out)) (by decide) hg); have n5_ := za.mk (Kd.Zf (ok := (fun k_ => some k_ ≠ (.slice (some ad514) t511.length co45 : Value).ownBlock ∧ some k_ ≠ (.slice (some ad515) t480.length co19 : Value).ownBlock ∧ some k_ ≠ (.slice Ao20 t483.length co20 : Value).ownBlock ∧ some k_ ≠ (.slice Ao30 t496.length co30 : Value).ownBlock)) (by (with_reducible repeat (first | apply Kd.zn | apply Kd.zq | apply Kd.zu)); exact Kd.zR HO_507003.out (fun _ hk => ⟨⟨hk.2.1, ⟨hk.2.2.1, ⟨hk.2.2.2.1, hk.2.2.2.2⟩⟩⟩, hk.1⟩)) hg hat); have n6_ := za.mk (Kd.Zf (ok := (fun k_ => some k_ ≠ (.slice (some ad514) t511.length co45 : Value).ownBlock ∧ some k_ ≠ (.slice (some ad515) t480.length co19 : Value).ownBlock ∧ some k_ ≠ (.slice Ao20 t483.length co20 : Value).ownBlock ∧ some k_ ≠ (.slice Ao29 t493.length co29 : Value).ownBlock)) (by (with_reducible repeat (first | apply Kd.zn | apply Kd.zq | apply Kd.zu)); exact Kd.zR HO_507004.out (fun _ hk => ⟨⟨hk.2.1, ⟨hk.2.2.1, ⟨hk.2.2.2.1, hk.2.2.2.2⟩⟩⟩, hk.1⟩)) hg hat); have n7_ := za.mk (Kd.Zf (ok := (fun k_ => some k_ ≠ (.slice (some ad514) t511.length co45 : Value).ownBlock ∧ some k_ ≠ (.slice (some ad515) t480.length co19 : Value).ownBlock ∧ some k_ ≠ (.slice Ao20 t483.length co20 : Value).ownBlock ∧ some k_ ≠ (.slice Ao29 t493.length co29 : Value).ownBlock ∧ some k_ ≠ (.slice Ao30 t496.length co30 : Value).ownBlock)) (by (with_reducible repeat (first | apply Kd.zn | apply Kd.zq | apply Kd.zu)); exact Kd.zR HO_507005.out (fun _ hk => ⟨⟨hk.2.1, ⟨hk.2.2.1, ⟨hk.2.2.2.1, ⟨hk.2.2.2.2.1, hk.2.2.2.2.2⟩⟩⟩⟩, hk.1⟩)) hg hat); have n8_ := za.mk (Kd.R_over' (by (with_reducible repeat (first | apply Kd.zn | apply Kd.zq | apply Kd.zu)); exact HO_507006.out) (Kd.R_typed (by (with_reducible repeat (first | apply Kd.zn | apply Kd.zq | apply Kd.zu)); exact HO_15.out)) (by decide) hg); have n9_ := za.mk (Zp (g := gb478) (o := .cells #[.int .i64 t473, .slice Ao13 t474.length co13] 29 (0, 0)) (by (with_reducible repeat (first | refine zk ?_ _ | refine zm ?_ | refine zh ?_ _)); exact BK478.out) hg (Kd.R_ne HO_15.out BK478.out (by decide))); have n10_ := za.mk (Zp (g := gb487) (o := .cells #[.int .i64 t479, .slice (some ad515) t480.length co19, .slice Ao20 t483.length co20] 32 (0, 0)) (by (with_reducible repeat (first | refine zk ?_ _ | refine zm ?_ | refine zh ?_ _)); exact BK487.out) hg (Kd.R_ne HO_15.out BK487.out (by decide))); have n11_ := za.mk (Zp (g := gb506) (o := .cells #[.int .i64 t488, .slice Ao28 t489.length co28, .int .i64 t492, .slice Ao29 t493.length co29, .slice Ao30 t496.length co30, .slice Ao31 t499.length co31, .slice Ao32 t502.length co32] 37 (0, 0)) (by (with_reducible repeat (first | refine zk ?_ _ | refine zm ?_ | refine zh ?_ _)); exact BK506.out) hg (Kd.R_ne HO_15.out BK506.out (by decide))); have n12_ := za.mk (hb); have n13_ := za.mk (ho); clear HO_63; clear HO_479001; clear HO_488001; clear HO_488002; clear HO_507001; clear HO_507003; clear HO_507004; clear HO_507005; clear HO_507006; clear BK478; clear BK487; clear BK506; clear HB; clear HO_15; have HO_63 := n0_; have HO_479001 := n1_; have HO_488001 := n2_; have HO_488002 := n3_; have HO_507001 := n4_; have HO_507003 := n5_; have HO_507004 := n6_; have HO_507005 := n7_; have HO_507006 := n8_; have BK478 := n9_; have BK487 := n10_; have BK506 := n11_; have HB := n12_; have HO518 := n13_; clear n0_ n1_ n2_ n3_ n4_ n5_ n6_ n7_ n8_ n9_ n10_ n11_ n12_ n13_; clear ho hb hg hat))
                go_roundg k3
                case measure => have := HK1.out; have := HK2.out; have := HK3.out; omega
                case rel => exact ⟨(y516), (wrap64 (x65_3 + 1)), (by first | rfl | (simp; done) | (simp [*]; done)), H', ⟨by have := HK1.out; have := HK2.out; have := HK3.out; omega⟩, ⟨by (with_reducible repeat (first | apply Kd.zn | apply Kd.zq | apply Kd.zu)); exact HO518.out⟩, ⟨by (with_reducible repeat (first | apply Kd.zn | apply Kd.zq | apply Kd.zu)); exact Kd.zR HO_63.out (fun _ hk => ⟨hk.2, ⟨hk.1.1, ⟨hk.1.2.1, ⟨hk.1.2.2.1, hk.1.2.2.2⟩⟩⟩⟩)⟩, ⟨by (with_reducible repeat (first | apply Kd.zn | apply Kd.zq | apply Kd.zu)); exact HO_479001.out⟩, ⟨by (with_reducible repeat (first | apply Kd.zn | apply Kd.zq | apply Kd.zu)); exact Kd.zR HO_488001.out (fun _ hk => ⟨hk.2, ⟨hk.1.1, ⟨hk.1.2.1, ⟨hk.1.2.2.1, hk.1.2.2.2⟩⟩⟩⟩)⟩, ⟨by (with_reducible repeat (first | apply Kd.zn | apply Kd.zq | apply Kd.zu)); exact Kd.zR HO_488002.out (fun _ hk => ⟨hk.2, ⟨hk.1.1, ⟨hk.1.2.1, ⟨hk.1.2.2.1, hk.1.2.2.2⟩⟩⟩⟩)⟩, ⟨by (with_reducible repeat (first | apply Kd.zn | apply Kd.zq | apply Kd.zu)); exact HO_507001.out⟩, ⟨by (with_reducible repeat (first | apply Kd.zn | apply Kd.zq | apply Kd.zu)); exact Kd.zR HO_507003.out (fun _ hk => ⟨hk.2, ⟨hk.1.1, ⟨hk.1.2.1, ⟨hk.1.2.2.1, hk.1.2.2.2⟩⟩⟩⟩)⟩, ⟨by (with_reducible repeat (first | apply Kd.zn | apply Kd.zq | apply Kd.zu)); exact Kd.zR HO_507004.out (fun _ hk => ⟨hk.2, ⟨hk.1.1, ⟨hk.1.2.1, ⟨hk.1.2.2.1, hk.1.2.2.2⟩⟩⟩⟩)⟩, ⟨by (with_reducible repeat (first | apply Kd.zn | apply Kd.zq | apply Kd.zu)); exact Kd.zR HO_507005.out (fun _ hk => ⟨hk.2, ⟨hk.1.1, ⟨hk.1.2.1, ⟨hk.1.2.2.1, ⟨hk.1.2.2.2.1, hk.1.2.2.2.2⟩⟩⟩⟩⟩)⟩, ⟨by (with_reducible repeat (first | apply Kd.zn | apply Kd.zq | apply Kd.zu)); exact HO_507006.out⟩, ⟨by (with_reducible repeat (first | refine zk ?_ _ | refine zm ?_ | refine zh ?_ _)); exact BK478.out⟩, ⟨by (with_reducible repeat (first | refine zk ?_ _ | refine zm ?_ | refine zh ?_ _)); exact BK487.out⟩, ⟨by (with_reducible repeat (first | refine zk ?_ _ | refine zm ?_ | refine zh ?_ _)); exact BK506.out⟩, ⟨by repeat (first | (with_reducible first | exact HB.out | apply zf | apply zb | apply zg | refine zi ?_ GE478.out | refine zi ?_ GE487.out | refine zi ?_ GE506.out) | exact HB.out)⟩⟩
               ·rw [if_neg c51] at H
                exact absurd H (by simp)
              ·rw [if_neg c50] at H
               exact absurd H (by simp)
             ·rw [if_neg c49] at H
              exact absurd H (by simp)
            ·rw [if_neg c48] at H
             exact absurd H (by simp)
           ·rw [if_neg c47] at H
            exact absurd H (by simp)
          ·rw [if_neg c46] at H
           have c46b0 : decide (x65_3 < (t511.length : Int)) = false := decide_eq_false c46
           clear c46
           by_cases c56 : 0 ≤ x14_2
           ·rw [if_pos c56] at H
            have c56b0 : decide (0 ≤ x14_2) = true := decide_eq_true c56
            clear c56
            by_cases c57 : x14_2 < (t480.length : Int)
            ·rw [if_pos c57] at H
             have c57b0 : decide (x14_2 < (t480.length : Int)) = true := decide_eq_true c57
             clear c57
             obtain ⟨y520, hy520⟩ : ∃ y_ : List Int, y_ = (([rd t480 x14_2] : List Int)) := ⟨_, rfl⟩
             replace H : ((zD.f k3 x15_3 y520).bind fun t523 => (zo.l2 k3 t505 x8_1 (wrap64 (x9_2 + (t523.length : Int))) (wrap64 (x14_2 + 1)) t473 t474 t479 t480 t483)) = some r := by first | (rw [hy520]; with_reducible exact H) | (have H2_ := (Option.bind_some _ _).symm.trans H; rw [hy520]; with_reducible exact H2_) | (have H2_ := (Option.bind_some _ _).symm.trans H; with_reducible exact H2_) | with_reducible exact H | (rw [hy520]; exact H) | exact H
             have Ny520 := za.mk hy520
             clear hy520
             replace H := Option.bind_eq_some_iff.mp H
             obtain ⟨t523, A580, H⟩ := H
             replace H : (zo.l2 k3 t505 x8_1 (wrap64 (x9_2 + (t523.length : Int))) (wrap64 (x14_2 + 1)) t473 t474 t479 t480 t483) = some r := H
             have A58 := za.mk A580
             clear A580
             have H' := za.mk H
             clear H
             have hnb59 := NB487_478.out
             have hnc59 := NB478_487.out
             have hnb60 := NB487_506.out
             have hnc60 := NB506_487.out
             have hcz61_0 : wr.cell? ⟨gb487, 0, none⟩ = some (.int .i64 t479) := (ze BK487.out 0).trans rfl
             have hcz61_1 : wr.cell? ⟨gb487, 1, none⟩ = some (.slice Ao19 t480.length co19) := (ze BK487.out 1).trans rfl
             have hcz61_2 : wr.cell? ⟨gb487, 2, none⟩ = some (.slice Ao20 t483.length co20) := (ze BK487.out 2).trans rfl
             have hfz61_0 := zl BK487.out 0
             have hfz61_1 := zl BK487.out 1
             have hfz61_2 := zl BK487.out 2
             have p519 : 0 ≤ (x14_2 : Int) := of_decide_eq_true (by first | (with_reducible assumption) | assumption)
             have q519 : x14_2 < (t480.length : Int) := of_decide_eq_true (by first | (with_reducible assumption) | assumption)
             obtain ⟨ad519, e519, hx519_0⟩ := Kd.qX (Kd.zO HO_488001.out).2.2 x14_2 p519 q519
             cases e519
             replace p519 := eq_true p519
             replace q519 := eq_true q519
             go_wp2_with (first | ((with_reducible refine qJ (N := 85) rfl ?_); refine Kd.R_lit (Kd.int .i64) _ 3 ?hg (N := 85) ?hd (xs := ([rd t480 x14_2] : List Int)) (inner := [.int .i64 (rd t480 x14_2)]) (ok := fun _ => True) (okp := fun _ => True) ?hr ?hp (fun _ hk => hk) trivial (Below.refl _ _) (Nat.le_refl _) (by simp) ?_; (case hd => rfl); (case hg => rfl); (case hr => first | (go_simp; done) | (go_simp; rfl)); (case hp => exact (Reps.one (show Kd.M (Kd.int .i64) _ _ _ (rd t480 x14_2) [.int .i64 (rd t480 x14_2)] from rfl) (Reps.none _ _))); intro v521 w62 ho63 hb hg_ hnew_; clear hg_ hnew_; (first | rw [← Ny520.out] at ho63 | (simp only [Int.reduceToNat] at ho63; rw [← Ny520.out] at ho63)); have n0_ := za.mk (Kd.qG (by (with_reducible repeat (first | apply Kd.zn | apply Kd.zq | apply Kd.zu)); exact HO_15.out) (Kd.qL ho63) hb); have n1_ := za.mk (Kd.qG (by (with_reducible repeat (first | apply Kd.zn | apply Kd.zq | apply Kd.zu)); exact HO_63.out) (Kd.qL ho63) hb); have n2_ := za.mk (Kd.zL (by (with_reducible repeat (first | apply Kd.zn | apply Kd.zq | apply Kd.zu)); exact HO_479001.out) hb); have n3_ := za.mk (Kd.qG (by (with_reducible repeat (first | apply Kd.zn | apply Kd.zq | apply Kd.zu)); exact HO_488001.out) (Kd.qL ho63) hb); have n4_ := za.mk (Kd.qG (by (with_reducible repeat (first | apply Kd.zn | apply Kd.zq | apply Kd.zu)); exact HO_488002.out) (Kd.qL ho63) hb); have n5_ := za.mk (Kd.zL (by (with_reducible repeat (first | apply Kd.zn | apply Kd.zq | apply Kd.zu)); exact HO_507001.out) hb); have n6_ := za.mk (Kd.qG (by (with_reducible repeat (first | apply Kd.zn | apply Kd.zq | apply Kd.zu)); exact HO_507003.out) (Kd.qL ho63) hb); have n7_ := za.mk (Kd.qG (by (with_reducible repeat (first | apply Kd.zn | apply Kd.zq | apply Kd.zu)); exact HO_507004.out) (Kd.qL ho63) hb); have n8_ := za.mk (Kd.qG (by (with_reducible repeat (first | apply Kd.zn | apply Kd.zq | apply Kd.zu)); exact HO_507005.out) (Kd.qL ho63) hb); have n9_ := za.mk (Kd.zL (by (with_reducible repeat (first | apply Kd.zn | apply Kd.zq | apply Kd.zu)); exact HO_507006.out) hb); have n10_ := za.mk (Kd.qM (Kd.qN (Kd.qN (Kd.qN (Kd.qN (Kd.qN (Kd.qN ho63 (Kd.R_lt (by (with_reducible repeat (first | apply Kd.zn | apply Kd.zq | apply Kd.zu)); exact HO_15.out))) (Kd.R_lt (by (with_reducible repeat (first | apply Kd.zn | apply Kd.zq | apply Kd.zu)); exact HO_63.out))) (Kd.R_lt (by (with_reducible repeat (first | apply Kd.zn | apply Kd.zq | apply Kd.zu)); exact HO_488001.out))) (Kd.R_lt (by (with_reducible repeat (first | apply Kd.zn | apply Kd.zq | apply Kd.zu)); exact HO_488002.out))) (Kd.R_lt (by (with_reducible repeat (first | apply Kd.zn | apply Kd.zq | apply Kd.zu)); exact HO_507003.out))) (Kd.R_lt (by (with_reducible repeat (first | apply Kd.zn | apply Kd.zq | apply Kd.zu)); exact HO_507004.out))) (zB (by repeat (first | (with_reducible first | exact HB.out | apply zf | apply zb | apply zg | refine zi ?_ GE478.out | refine zi ?_ GE487.out | refine zi ?_ GE506.out) | exact HB.out)))); have n11_ := za.mk (zW (g := gb478) (o := .cells #[.int .i64 t473, .slice Ao13 t474.length co13] 29 (0, 0)) (by (with_reducible repeat (first | refine zk ?_ _ | refine zm ?_ | refine zh ?_ _)); exact BK478.out) hb); have n12_ := za.mk (zW (g := gb487) (o := .cells #[.int .i64 t479, .slice (some ad519) t480.length co19, .slice Ao20 t483.length co20] 32 (0, 0)) (by (with_reducible repeat (first | refine zk ?_ _ | refine zm ?_ | refine zh ?_ _)); exact BK487.out) hb); have n13_ := za.mk (zW (g := gb506) (o := .cells #[.int .i64 t488, .slice Ao28 t489.length co28, .int .i64 t492, .slice Ao29 t493.length co29, .slice Ao30 t496.length co30, .slice Ao31 t499.length co31, .slice Ao32 t502.length co32] 37 (0, 0)) (by (with_reducible repeat (first | refine zk ?_ _ | refine zm ?_ | refine zh ?_ _)); exact BK506.out) hb); have n14_ := za.mk (zT (by repeat (first | (with_reducible first | exact HB.out | apply zf | apply zb | apply zg | refine zi ?_ GE478.out | refine zi ?_ GE487.out | refine zi ?_ GE506.out) | exact HB.out)) hb); clear HO_15; clear HO_63; clear HO_479001; clear HO_488001; clear HO_488002; clear HO_507001; clear HO_507003; clear HO_507004; clear HO_507005; clear HO_507006; clear BK478; clear BK487; clear BK506; clear HB; have HO_15 := n0_; have HO_63 := n1_; have HO_479001 := n2_; have HO_488001 := n3_; have HO_488002 := n4_; have HO_507001 := n5_; have HO_507003 := n6_; have HO_507004 := n7_; have HO_507005 := n8_; have HO_507006 := n9_; have HO522 := n10_; have BK478 := n11_; have BK487 := n12_; have BK506 := n13_; have HB := n14_; clear n0_ n1_ n2_ n3_ n4_ n5_ n6_ n7_ n8_ n9_ n10_ n11_ n12_ n13_ n14_; clear hb ho63; obtain ⟨Ao64, co64, eo64⟩ := Kd.qC HO_15.out; subst eo64; obtain ⟨Ao65, co65, eo65⟩ := Kd.qC HO522.out; subst eo65) | ((with_reducible refine qc (f := 15) rfl ?_); refine qU (some 86) rfl rfl Try.func15 (by kernel_rfl) rfl #[.slice Ao64 x15_3.length co64, .slice Ao65 y520.length co65] rfl (by (try simp only [List.map_toArray, List.map_cons, List.map_nil]); first | done | rfl | (simp only [List.length_drop, List.length_take]; rfl)) ?_; (with_reducible refine (zD.calls k3 _ _ x15_3 _ _ y520 t523 _ ?side1 ?side2 ?side3 ?side4 A58.out).mono ?_); (case side1 => repeat (first | exact (Kd.zO HO_15.out).2.2 | (with_reducible refine Kd.qA ?_ _) | (with_reducible refine Kd.qz ?_ _) | (with_reducible refine Kd.qF ?_))); (case side2 => exact (Kd.zO HO_15.out).2.1); (case side3 => repeat (first | exact (Kd.zO HO522.out).2.2 | (with_reducible refine Kd.qA ?_ _) | (with_reducible refine Kd.qz ?_ _) | (with_reducible refine Kd.qF ?_))); (case side4 => exact (Kd.zO HO522.out).2.1); rintro e w66 ⟨v524, rfl, ho0, hb⟩; refine ⟨_, rfl, ?_⟩; have n0_ := za.mk (Kd.qG (by (with_reducible repeat (first | apply Kd.zn | apply Kd.zq | apply Kd.zu)); exact HO_15.out) (Kd.qL ho0) hb); have n1_ := za.mk (Kd.qG (by (with_reducible repeat (first | apply Kd.zn | apply Kd.zq | apply Kd.zu)); exact HO_63.out) (Kd.qL ho0) hb); have n2_ := za.mk (Kd.zL (by (with_reducible repeat (first | apply Kd.zn | apply Kd.zq | apply Kd.zu)); exact HO_479001.out) hb); have n3_ := za.mk (Kd.qG (by (with_reducible repeat (first | apply Kd.zn | apply Kd.zq | apply Kd.zu)); exact HO_488001.out) (Kd.qL ho0) hb); have n4_ := za.mk (Kd.qG (by (with_reducible repeat (first | apply Kd.zn | apply Kd.zq | apply Kd.zu)); exact HO_488002.out) (Kd.qL ho0) hb); have n5_ := za.mk (Kd.zL (by (with_reducible repeat (first | apply Kd.zn | apply Kd.zq | apply Kd.zu)); exact HO_507001.out) hb); have n6_ := za.mk (Kd.qG (by (with_reducible repeat (first | apply Kd.zn | apply Kd.zq | apply Kd.zu)); exact HO_507003.out) (Kd.qL ho0) hb); have n7_ := za.mk (Kd.qG (by (with_reducible repeat (first | apply Kd.zn | apply Kd.zq | apply Kd.zu)); exact HO_507004.out) (Kd.qL ho0) hb); have n8_ := za.mk (Kd.qG (by (with_reducible repeat (first | apply Kd.zn | apply Kd.zq | apply Kd.zu)); exact HO_507005.out) (Kd.qL ho0) hb); have n9_ := za.mk (Kd.zL (by (with_reducible repeat (first | apply Kd.zn | apply Kd.zq | apply Kd.zu)); exact HO_507006.out) hb); have n10_ := za.mk (Kd.qG (by (with_reducible repeat (first | apply Kd.zn | apply Kd.zq | apply Kd.zu)); exact HO522.out) (Kd.qL ho0) hb); have n11_ := za.mk (Kd.qM (Kd.qN (Kd.qN (Kd.qN (Kd.qN (Kd.qN (Kd.qN (Kd.qN ho0 (Kd.R_lt (by (with_reducible repeat (first | apply Kd.zn | apply Kd.zq | apply Kd.zu)); exact HO_15.out))) (Kd.R_lt (by (with_reducible repeat (first | apply Kd.zn | apply Kd.zq | apply Kd.zu)); exact HO_63.out))) (Kd.R_lt (by (with_reducible repeat (first | apply Kd.zn | apply Kd.zq | apply Kd.zu)); exact HO_488001.out))) (Kd.R_lt (by (with_reducible repeat (first | apply Kd.zn | apply Kd.zq | apply Kd.zu)); exact HO_488002.out))) (Kd.R_lt (by (with_reducible repeat (first | apply Kd.zn | apply Kd.zq | apply Kd.zu)); exact HO_507003.out))) (Kd.R_lt (by (with_reducible repeat (first | apply Kd.zn | apply Kd.zq | apply Kd.zu)); exact HO_507004.out))) (Kd.R_lt (by (with_reducible repeat (first | apply Kd.zn | apply Kd.zq | apply Kd.zu)); exact HO522.out))) (zB (by repeat (first | (with_reducible first | exact HB.out | apply zf | apply zb | apply zg | refine zi ?_ GE478.out | refine zi ?_ GE487.out | refine zi ?_ GE506.out) | exact HB.out)))); have n12_ := za.mk (zW (g := gb478) (o := .cells #[.int .i64 t473, .slice Ao13 t474.length co13] 29 (0, 0)) (by (with_reducible repeat (first | refine zk ?_ _ | refine zm ?_ | refine zh ?_ _)); exact BK478.out) hb); have n13_ := za.mk (zW (g := gb487) (o := .cells #[.int .i64 t479, .slice (some ad519) t480.length co19, .slice Ao20 t483.length co20] 32 (0, 0)) (by (with_reducible repeat (first | refine zk ?_ _ | refine zm ?_ | refine zh ?_ _)); exact BK487.out) hb); have n14_ := za.mk (zW (g := gb506) (o := .cells #[.int .i64 t488, .slice Ao28 t489.length co28, .int .i64 t492, .slice Ao29 t493.length co29, .slice Ao30 t496.length co30, .slice Ao31 t499.length co31, .slice Ao32 t502.length co32] 37 (0, 0)) (by (with_reducible repeat (first | refine zk ?_ _ | refine zm ?_ | refine zh ?_ _)); exact BK506.out) hb); have n15_ := za.mk (zT (by repeat (first | (with_reducible first | exact HB.out | apply zf | apply zb | apply zg | refine zi ?_ GE478.out | refine zi ?_ GE487.out | refine zi ?_ GE506.out) | exact HB.out)) hb); clear HO_15; clear HO_63; clear HO_479001; clear HO_488001; clear HO_488002; clear HO_507001; clear HO_507003; clear HO_507004; clear HO_507005; clear HO_507006; clear HO522; clear BK478; clear BK487; clear BK506; clear HB; have HO_15 := n0_; have HO_63 := n1_; have HO_479001 := n2_; have HO_488001 := n3_; have HO_488002 := n4_; have HO_507001 := n5_; have HO_507003 := n6_; have HO_507004 := n7_; have HO_507005 := n8_; have HO_507006 := n9_; have HO522 := n10_; have HO525 := n11_; have BK478 := n12_; have BK487 := n13_; have BK506 := n14_; have HB := n15_; clear n0_ n1_ n2_ n3_ n4_ n5_ n6_ n7_ n8_ n9_ n10_ n11_ n12_ n13_ n14_ n15_; (try clear hb); (try clear hb2); (try clear hk); (try clear hi); (try clear ho0); obtain ⟨Ao67, co67, eo67⟩ := Kd.qC HO525.out; subst eo67))
             go_roundg k3
             case measure => have := HK1.out; have := HK2.out; have := HK3.out; omega
             case rel => exact ⟨(wrap64 (x9_2 + (t523.length : Int))), (wrap64 (x14_2 + 1)), (by first | rfl | (simp; done) | (simp [*]; done)), (by first | rfl | (simp; done) | (simp [*]; done)), H', ⟨by have := HK1.out; have := HK2.out; have := HK3.out; omega⟩, ⟨by (with_reducible repeat (first | apply Kd.zn | apply Kd.zq | apply Kd.zu)); exact HO_479001.out⟩, ⟨by (with_reducible repeat (first | apply Kd.zn | apply Kd.zq | apply Kd.zu)); exact Kd.zR HO_488001.out (fun _ hk => ⟨hk.1.1.2.2.1, ⟨hk.1.1.2.2.2.1, hk.1.1.2.2.2.2⟩⟩)⟩, ⟨by (with_reducible repeat (first | apply Kd.zn | apply Kd.zq | apply Kd.zu)); exact Kd.zR HO_488002.out (fun _ hk => ⟨hk.1.1.2.2.1, ⟨hk.1.1.2.2.2.1, hk.1.1.2.2.2.2⟩⟩)⟩, ⟨by (with_reducible repeat (first | apply Kd.zn | apply Kd.zq | apply Kd.zu)); exact HO_507001.out⟩, ⟨by (with_reducible repeat (first | apply Kd.zn | apply Kd.zq | apply Kd.zu)); exact Kd.zR HO_507003.out (fun _ hk => ⟨hk.1.1.2.2.1, ⟨hk.1.1.2.2.2.1, hk.1.1.2.2.2.2⟩⟩)⟩, ⟨by (with_reducible repeat (first | apply Kd.zn | apply Kd.zq | apply Kd.zu)); exact Kd.zR HO_507004.out (fun _ hk => ⟨hk.1.1.2.2.1, ⟨hk.1.1.2.2.2.1, hk.1.1.2.2.2.2⟩⟩)⟩, ⟨by (with_reducible repeat (first | apply Kd.zn | apply Kd.zq | apply Kd.zu)); exact Kd.zR HO_507005.out (fun _ hk => ⟨hk.1.1.2.2.1, ⟨hk.1.1.2.2.2.1, ⟨hk.1.1.2.2.2.2.1, hk.1.1.2.2.2.2.2⟩⟩⟩)⟩, ⟨by (with_reducible repeat (first | apply Kd.zn | apply Kd.zq | apply Kd.zu)); exact HO_507006.out⟩, ⟨by (with_reducible repeat (first | refine zk ?_ _ | refine zm ?_ | refine zh ?_ _)); exact BK478.out⟩, ⟨by (with_reducible repeat (first | refine zk ?_ _ | refine zm ?_ | refine zh ?_ _)); exact BK487.out⟩, ⟨by (with_reducible repeat (first | refine zk ?_ _ | refine zm ?_ | refine zh ?_ _)); exact BK506.out⟩, ⟨by repeat (first | (with_reducible first | exact HB.out | apply zf | apply zb | apply zg | refine zi ?_ GE478.out | refine zi ?_ GE487.out | refine zi ?_ GE506.out) | exact HB.out)⟩⟩
            ·rw [if_neg c57] at H
             exact absurd H (by simp)
           ·rw [if_neg c56] at H
            exact absurd H (by simp)
       ·rw [if_neg c39] at H
        have c39b0 : decide (x14_2 < t473) = false := decide_eq_false c39
        clear c39
        by_cases c68 : t505 = 0
        ·rw [if_pos c68] at H
         have c68b0 : (t505 == 0) = true := beq_iff_eq.mpr c68
         have c68b1 : (t505 != 0) = false := bne_eq_false_iff_eq.mpr c68
         clear c68
         by_cases c69 : x8_1 = x9_2
         ·rw [if_pos c69] at H
          have c69b0 : (x8_1 == x9_2) = true := beq_iff_eq.mpr c69
          have c69b1 : (x8_1 != x9_2) = false := bne_eq_false_iff_eq.mpr c69
          clear c69
          replace H := Option.bind_eq_some_iff.mp H
          obtain ⟨t509, A700, H⟩ := H
          replace H : (if t509 = 0 then ((zU.f k2).bind fun t510 => (some t510)) else (some false)) = some r := H
          have A70 := za.mk A700
          clear A700
          by_cases c71 : t509 = 0
          ·rw [if_pos c71] at H
           have c71b0 : (t509 == 0) = true := beq_iff_eq.mpr c71
           have c71b1 : (t509 != 0) = false := bne_eq_false_iff_eq.mpr c71
           clear c71
           replace H := Option.bind_eq_some_iff.mp H
           obtain ⟨t510, A720, H⟩ := H
           replace H : (some t510) = some r := H
           have A72 := za.mk A720
           clear A720
           obtain rfl := Option.some.inj H
           have hnb73 := NB478_487.out
           have hnc73 := NB487_478.out
           have hnb74 := NB478_506.out
           have hnc74 := NB506_478.out
           have hcz75_0 : wr.cell? ⟨gb478, 0, none⟩ = some (.int .i64 t473) := (ze BK478.out 0).trans rfl
           have hcz75_1 : wr.cell? ⟨gb478, 1, none⟩ = some (.slice Ao13 t474.length co13) := (ze BK478.out 1).trans rfl
           have hfz75_0 := zl BK478.out 0
           have hfz75_1 := zl BK478.out 1
           have hnb76 := NB487_506.out
           have hnc76 := NB506_487.out
           have hcz77_0 : wr.cell? ⟨gb487, 0, none⟩ = some (.int .i64 t479) := (ze BK487.out 0).trans rfl
           have hcz77_1 : wr.cell? ⟨gb487, 1, none⟩ = some (.slice Ao19 t480.length co19) := (ze BK487.out 1).trans rfl
           have hcz77_2 : wr.cell? ⟨gb487, 2, none⟩ = some (.slice Ao20 t483.length co20) := (ze BK487.out 2).trans rfl
           have hfz77_0 := zl BK487.out 0
           have hfz77_1 := zl BK487.out 1
           have hfz77_2 := zl BK487.out 2
           go_wp2_with (first | (go_at_call 16; (with_reducible refine (zy.calls k2 t479 _ _ t480 _ _ t483 t473 t509 _ ?side1 ?side2 ?side3 ?side4 A70.out).mono ?_); (case side1 => repeat (first | exact (Kd.zO HO_488001.out).2.2 | (with_reducible refine Kd.qA ?_ _) | (with_reducible refine Kd.qz ?_ _) | (with_reducible refine Kd.qF ?_))); (case side2 => exact (Kd.zO HO_488001.out).2.1); (case side3 => repeat (first | exact (Kd.zO HO_488002.out).2.2 | (with_reducible refine Kd.qA ?_ _) | (with_reducible refine Kd.qz ?_ _) | (with_reducible refine Kd.qF ?_))); (case side4 => exact (Kd.zO HO_488002.out).2.1); rintro e w78 ⟨rfl, hb⟩; have n0_ := za.mk (Kd.zL (by (with_reducible repeat (first | apply Kd.zn | apply Kd.zq | apply Kd.zu)); exact HO_479001.out) hb); have n1_ := za.mk (Kd.zL (by (with_reducible repeat (first | apply Kd.zn | apply Kd.zq | apply Kd.zu)); exact HO_488001.out) hb); have n2_ := za.mk (Kd.zL (by (with_reducible repeat (first | apply Kd.zn | apply Kd.zq | apply Kd.zu)); exact HO_488002.out) hb); have n3_ := za.mk (Kd.zL (by (with_reducible repeat (first | apply Kd.zn | apply Kd.zq | apply Kd.zu)); exact HO_507001.out) hb); have n4_ := za.mk (Kd.zL (by (with_reducible repeat (first | apply Kd.zn | apply Kd.zq | apply Kd.zu)); exact HO_507003.out) hb); have n5_ := za.mk (Kd.zL (by (with_reducible repeat (first | apply Kd.zn | apply Kd.zq | apply Kd.zu)); exact HO_507004.out) hb); have n6_ := za.mk (Kd.zL (by (with_reducible repeat (first | apply Kd.zn | apply Kd.zq | apply Kd.zu)); exact HO_507005.out) hb); have n7_ := za.mk (Kd.zL (by (with_reducible repeat (first | apply Kd.zn | apply Kd.zq | apply Kd.zu)); exact HO_507006.out) hb); have n8_ := za.mk (zW (g := gb478) (o := .cells #[.int .i64 t473, .slice Ao13 t474.length co13] 29 (0, 0)) (by (with_reducible repeat (first | refine zk ?_ _ | refine zm ?_ | refine zh ?_ _)); exact BK478.out) hb); have n9_ := za.mk (zW (g := gb487) (o := .cells #[.int .i64 t479, .slice Ao19 t480.length co19, .slice Ao20 t483.length co20] 32 (0, 0)) (by (with_reducible repeat (first | refine zk ?_ _ | refine zm ?_ | refine zh ?_ _)); exact BK487.out) hb); have n10_ := za.mk (zW (g := gb506) (o := .cells #[.int .i64 t488, .slice Ao28 t489.length co28, .int .i64 t492, .slice Ao29 t493.length co29, .slice Ao30 t496.length co30, .slice Ao31 t499.length co31, .slice Ao32 t502.length co32] 37 (0, 0)) (by (with_reducible repeat (first | refine zk ?_ _ | refine zm ?_ | refine zh ?_ _)); exact BK506.out) hb); have n11_ := za.mk (zT (by repeat (first | (with_reducible first | exact HB.out | apply zf | apply zb | apply zg | refine zi ?_ GE478.out | refine zi ?_ GE487.out | refine zi ?_ GE506.out) | exact HB.out)) hb); clear HO_479001; clear HO_488001; clear HO_488002; clear HO_507001; clear HO_507003; clear HO_507004; clear HO_507005; clear HO_507006; clear BK478; clear BK487; clear BK506; clear HB; have HO_479001 := n0_; have HO_488001 := n1_; have HO_488002 := n2_; have HO_507001 := n3_; have HO_507003 := n4_; have HO_507004 := n5_; have HO_507005 := n6_; have HO_507006 := n7_; have BK478 := n8_; have BK487 := n9_; have BK506 := n10_; have HB := n11_; clear n0_ n1_ n2_ n3_ n4_ n5_ n6_ n7_ n8_ n9_ n10_ n11_; (try clear hb); (try clear hb2); (try clear hk); (try clear hi)) | (go_at_call 9; (with_reducible refine (zU.calls k2  t510 _ A72.out).mono ?_); rintro e w79 ⟨rfl, hb⟩; have n0_ := za.mk (Kd.zL (by (with_reducible repeat (first | apply Kd.zn | apply Kd.zq | apply Kd.zu)); exact HO_479001.out) hb); have n1_ := za.mk (Kd.zL (by (with_reducible repeat (first | apply Kd.zn | apply Kd.zq | apply Kd.zu)); exact HO_488001.out) hb); have n2_ := za.mk (Kd.zL (by (with_reducible repeat (first | apply Kd.zn | apply Kd.zq | apply Kd.zu)); exact HO_488002.out) hb); have n3_ := za.mk (Kd.zL (by (with_reducible repeat (first | apply Kd.zn | apply Kd.zq | apply Kd.zu)); exact HO_507001.out) hb); have n4_ := za.mk (Kd.zL (by (with_reducible repeat (first | apply Kd.zn | apply Kd.zq | apply Kd.zu)); exact HO_507003.out) hb); have n5_ := za.mk (Kd.zL (by (with_reducible repeat (first | apply Kd.zn | apply Kd.zq | apply Kd.zu)); exact HO_507004.out) hb); have n6_ := za.mk (Kd.zL (by (with_reducible repeat (first | apply Kd.zn | apply Kd.zq | apply Kd.zu)); exact HO_507005.out) hb); have n7_ := za.mk (Kd.zL (by (with_reducible repeat (first | apply Kd.zn | apply Kd.zq | apply Kd.zu)); exact HO_507006.out) hb); have n8_ := za.mk (zW (g := gb478) (o := .cells #[.int .i64 t473, .slice Ao13 t474.length co13] 29 (0, 0)) (by (with_reducible repeat (first | refine zk ?_ _ | refine zm ?_ | refine zh ?_ _)); exact BK478.out) hb); have n9_ := za.mk (zW (g := gb487) (o := .cells #[.int .i64 t479, .slice Ao19 t480.length co19, .slice Ao20 t483.length co20] 32 (0, 0)) (by (with_reducible repeat (first | refine zk ?_ _ | refine zm ?_ | refine zh ?_ _)); exact BK487.out) hb); have n10_ := za.mk (zW (g := gb506) (o := .cells #[.int .i64 t488, .slice Ao28 t489.length co28, .int .i64 t492, .slice Ao29 t493.length co29, .slice Ao30 t496.length co30, .slice Ao31 t499.length co31, .slice Ao32 t502.length co32] 37 (0, 0)) (by (with_reducible repeat (first | refine zk ?_ _ | refine zm ?_ | refine zh ?_ _)); exact BK506.out) hb); have n11_ := za.mk (zT (by repeat (first | (with_reducible first | exact HB.out | apply zf | apply zb | apply zg | refine zi ?_ GE478.out | refine zi ?_ GE487.out | refine zi ?_ GE506.out) | exact HB.out)) hb); clear HO_479001; clear HO_488001; clear HO_488002; clear HO_507001; clear HO_507003; clear HO_507004; clear HO_507005; clear HO_507006; clear BK478; clear BK487; clear BK506; clear HB; have HO_479001 := n0_; have HO_488001 := n1_; have HO_488002 := n2_; have HO_507001 := n3_; have HO_507003 := n4_; have HO_507004 := n5_; have HO_507005 := n6_; have HO_507006 := n7_; have BK478 := n8_; have BK487 := n9_; have BK506 := n10_; have HB := n11_; clear n0_ n1_ n2_ n3_ n4_ n5_ n6_ n7_ n8_ n9_ n10_ n11_; (try clear hb); (try clear hb2); (try clear hk); (try clear hi)))
           go_ret
           exact ⟨by first | rfl | (simp [zQ, zP] <;> rfl) | (simp [*, zQ, zP] <;> rfl), by repeat (first | (with_reducible first | exact HB.out | apply zf | apply zb | apply zg | refine zi ?_ GE478.out | refine zi ?_ GE487.out | refine zi ?_ GE506.out) | exact HB.out)⟩
          ·rw [if_neg c71] at H
           have c71b0 : (t509 == 0) = false := beq_eq_false_iff_ne.mpr c71
           have c71b1 : (t509 != 0) = true := bne_iff_ne.mpr c71
           obtain rfl := Option.some.inj H
           have hnb80 := NB478_487.out
           have hnc80 := NB487_478.out
           have hnb81 := NB478_506.out
           have hnc81 := NB506_478.out
           have hcz82_0 : wr.cell? ⟨gb478, 0, none⟩ = some (.int .i64 t473) := (ze BK478.out 0).trans rfl
           have hcz82_1 : wr.cell? ⟨gb478, 1, none⟩ = some (.slice Ao13 t474.length co13) := (ze BK478.out 1).trans rfl
           have hfz82_0 := zl BK478.out 0
           have hfz82_1 := zl BK478.out 1
           have hnb83 := NB487_506.out
           have hnc83 := NB506_487.out
           have hcz84_0 : wr.cell? ⟨gb487, 0, none⟩ = some (.int .i64 t479) := (ze BK487.out 0).trans rfl
           have hcz84_1 : wr.cell? ⟨gb487, 1, none⟩ = some (.slice Ao19 t480.length co19) := (ze BK487.out 1).trans rfl
           have hcz84_2 : wr.cell? ⟨gb487, 2, none⟩ = some (.slice Ao20 t483.length co20) := (ze BK487.out 2).trans rfl
           have hfz84_0 := zl BK487.out 0
           have hfz84_1 := zl BK487.out 1
           have hfz84_2 := zl BK487.out 2
           go_wp2_with (first | (go_at_call 16; (with_reducible refine (zy.calls k2 t479 _ _ t480 _ _ t483 t473 t509 _ ?side1 ?side2 ?side3 ?side4 A70.out).mono ?_); (case side1 => repeat (first | exact (Kd.zO HO_488001.out).2.2 | (with_reducible refine Kd.qA ?_ _) | (with_reducible refine Kd.qz ?_ _) | (with_reducible refine Kd.qF ?_))); (case side2 => exact (Kd.zO HO_488001.out).2.1); (case side3 => repeat (first | exact (Kd.zO HO_488002.out).2.2 | (with_reducible refine Kd.qA ?_ _) | (with_reducible refine Kd.qz ?_ _) | (with_reducible refine Kd.qF ?_))); (case side4 => exact (Kd.zO HO_488002.out).2.1); rintro e w85 ⟨rfl, hb⟩; have n0_ := za.mk (Kd.zL (by (with_reducible repeat (first | apply Kd.zn | apply Kd.zq | apply Kd.zu)); exact HO_479001.out) hb); have n1_ := za.mk (Kd.zL (by (with_reducible repeat (first | apply Kd.zn | apply Kd.zq | apply Kd.zu)); exact HO_488001.out) hb); have n2_ := za.mk (Kd.zL (by (with_reducible repeat (first | apply Kd.zn | apply Kd.zq | apply Kd.zu)); exact HO_488002.out) hb); have n3_ := za.mk (Kd.zL (by (with_reducible repeat (first | apply Kd.zn | apply Kd.zq | apply Kd.zu)); exact HO_507001.out) hb); have n4_ := za.mk (Kd.zL (by (with_reducible repeat (first | apply Kd.zn | apply Kd.zq | apply Kd.zu)); exact HO_507003.out) hb); have n5_ := za.mk (Kd.zL (by (with_reducible repeat (first | apply Kd.zn | apply Kd.zq | apply Kd.zu)); exact HO_507004.out) hb); have n6_ := za.mk (Kd.zL (by (with_reducible repeat (first | apply Kd.zn | apply Kd.zq | apply Kd.zu)); exact HO_507005.out) hb); have n7_ := za.mk (Kd.zL (by (with_reducible repeat (first | apply Kd.zn | apply Kd.zq | apply Kd.zu)); exact HO_507006.out) hb); have n8_ := za.mk (zW (g := gb478) (o := .cells #[.int .i64 t473, .slice Ao13 t474.length co13] 29 (0, 0)) (by (with_reducible repeat (first | refine zk ?_ _ | refine zm ?_ | refine zh ?_ _)); exact BK478.out) hb); have n9_ := za.mk (zW (g := gb487) (o := .cells #[.int .i64 t479, .slice Ao19 t480.length co19, .slice Ao20 t483.length co20] 32 (0, 0)) (by (with_reducible repeat (first | refine zk ?_ _ | refine zm ?_ | refine zh ?_ _)); exact BK487.out) hb); have n10_ := za.mk (zW (g := gb506) (o := .cells #[.int .i64 t488, .slice Ao28 t489.length co28, .int .i64 t492, .slice Ao29 t493.length co29, .slice Ao30 t496.length co30, .slice Ao31 t499.length co31, .slice Ao32 t502.length co32] 37 (0, 0)) (by (with_reducible repeat (first | refine zk ?_ _ | refine zm ?_ | refine zh ?_ _)); exact BK506.out) hb); have n11_ := za.mk (zT (by repeat (first | (with_reducible first | exact HB.out | apply zf | apply zb | apply zg | refine zi ?_ GE478.out | refine zi ?_ GE487.out | refine zi ?_ GE506.out) | exact HB.out)) hb); clear HO_479001; clear HO_488001; clear HO_488002; clear HO_507001; clear HO_507003; clear HO_507004; clear HO_507005; clear HO_507006; clear BK478; clear BK487; clear BK506; clear HB; have HO_479001 := n0_; have HO_488001 := n1_; have HO_488002 := n2_; have HO_507001 := n3_; have HO_507003 := n4_; have HO_507004 := n5_; have HO_507005 := n6_; have HO_507006 := n7_; have BK478 := n8_; have BK487 := n9_; have BK506 := n10_; have HB := n11_; clear n0_ n1_ n2_ n3_ n4_ n5_ n6_ n7_ n8_ n9_ n10_ n11_; (try clear hb); (try clear hb2); (try clear hk); (try clear hi)))
           go_ret
           exact ⟨by first | rfl | (simp [zQ, zP] <;> rfl) | (simp [*, zQ, zP] <;> rfl), by repeat (first | (with_reducible first | exact HB.out | apply zf | apply zb | apply zg | refine zi ?_ GE478.out | refine zi ?_ GE487.out | refine zi ?_ GE506.out) | exact HB.out)⟩
         ·rw [if_neg c69] at H
          have c69b0 : (x8_1 == x9_2) = false := beq_eq_false_iff_ne.mpr c69
          have c69b1 : (x8_1 != x9_2) = true := bne_iff_ne.mpr c69
          obtain rfl := Option.some.inj H
          have hnb86 := NB478_487.out
          have hnc86 := NB487_478.out
          have hnb87 := NB478_506.out
          have hnc87 := NB506_478.out
          have hcz88_0 : wr.cell? ⟨gb478, 0, none⟩ = some (.int .i64 t473) := (ze BK478.out 0).trans rfl
          have hcz88_1 : wr.cell? ⟨gb478, 1, none⟩ = some (.slice Ao13 t474.length co13) := (ze BK478.out 1).trans rfl
          have hfz88_0 := zl BK478.out 0
          have hfz88_1 := zl BK478.out 1
          go_wp2
          go_ret
          exact ⟨by first | rfl | (simp [zQ, zP] <;> rfl) | (simp [*, zQ, zP] <;> rfl), by repeat (first | (with_reducible first | exact HB.out | apply zf | apply zb | apply zg | refine zi ?_ GE478.out | refine zi ?_ GE487.out | refine zi ?_ GE506.out) | exact HB.out)⟩
        ·rw [if_neg c68] at H
         have c68b0 : (t505 == 0) = false := beq_eq_false_iff_ne.mpr c68
         have c68b1 : (t505 != 0) = true := bne_iff_ne.mpr c68
         obtain rfl := Option.some.inj H
         have hnb89 := NB478_487.out
         have hnc89 := NB487_478.out
         have hnb90 := NB478_506.out
         have hnc90 := NB506_478.out
         have hcz91_0 : wr.cell? ⟨gb478, 0, none⟩ = some (.int .i64 t473) := (ze BK478.out 0).trans rfl
         have hcz91_1 : wr.cell? ⟨gb478, 1, none⟩ = some (.slice Ao13 t474.length co13) := (ze BK478.out 1).trans rfl
         have hfz91_0 := zl BK478.out 0
         have hfz91_1 := zl BK478.out 1
         go_wp2
         go_ret
         exact ⟨by first | rfl | (simp [zQ, zP] <;> rfl) | (simp [*, zQ, zP] <;> rfl), by repeat (first | (with_reducible first | exact HB.out | apply zf | apply zb | apply zg | refine zi ?_ GE478.out | refine zi ?_ GE487.out | refine zi ?_ GE506.out) | exact HB.out)⟩
 ·replace c3 := Bool.eq_false_iff.mpr c3
  subst c3
  have H1 : ((zU.f k).bind fun t469 => (some t469)) = some r := by rw [if_neg (show ¬ (false = true) by decide)] at H; exact H
  clear H
  have H := H1
  clear H1
  replace H := Option.bind_eq_some_iff.mp H
  obtain ⟨t469, A920, H⟩ := H
  replace H : (some t469) = some r := H
  have A92 := za.mk A920
  clear A920
  obtain rfl := Option.some.inj H
  go_enter Try.func3, Try.ntmps3
  go_wp2_with (first | ((with_reducible refine qc (f := 8) rfl ?_); refine qU (some 19) rfl rfl Try.func8 (by kernel_rfl) rfl #[.slice A0 l0.length c0] rfl (by (try simp only [List.map_toArray, List.map_cons, List.map_nil]); first | done | rfl | (simp only [List.length_drop, List.length_take]; rfl)) ?_; (with_reducible refine (Zk.calls _ _ l0 false _ ?side1 ?side2 A2.out).mono ?_); (case side1 => repeat (first | exact HR0.out | (with_reducible refine Kd.qA ?_ _) | (with_reducible refine Kd.qz ?_ _) | (with_reducible refine Kd.qF ?_))); (case side2 => exact HC0.out); rintro e w' ⟨rfl, ⟨nd, rfl⟩⟩; refine ⟨_, rfl, ?_⟩) | ((with_reducible refine qc (f := 9) rfl ?_); refine qU (some 21) rfl rfl Try.func9 (by kernel_rfl) rfl #[] rfl (by (try simp only [List.map_toArray, List.map_cons, List.map_nil]); first | done | rfl | (simp only [List.length_drop, List.length_take]; rfl)) ?_; (with_reducible refine (zU.calls k  t469 _ A92.out).mono ?_); rintro e w93 ⟨rfl, hb⟩; refine ⟨_, rfl, ?_⟩; have n0_ := za.mk (zT (by repeat (first | (with_reducible first | exact HB.out | apply zf | apply zb | apply zg) | exact HB.out)) hb); clear HB; have HB := n0_; clear n0_; (try clear hb); (try clear hb2); (try clear hk); (try clear hi)))
  go_ret
  exact ⟨by first | rfl | (simp [zQ, zP] <;> rfl) | (simp [*, zQ, zP] <;> rfl), by repeat (first | (with_reducible first | exact HB.out | apply zf | apply zb | apply zg) | exact HB.out)⟩
def zo.Pure : Prop := ∀ (l0 : List Int), l0.length ≤ maxLen → l0.length * 8 ≤ 140737488351232 → (∀ x ∈ l0, (Lit.int .i64 x).wf = true) → ∃ k, zo.f k l0 = some true
theorem zo.walk (P : zo.Pure) (a0 : Option Addr) (len0 cap0 : Nat) (z0 : List Int) (w : World) (w0 : (a0 = none ∧ len0 = 0 ∧ cap0 = 0 ∧ z0 = []) ∨ ∃ x, a0 = some x ∧ len0 ≤ cap0 ∧ cap0 ≤ maxLen ∧ z0.length = cap0 ∧ (∀ i, i < z0.length → w.cell? (x.add i) = some (.int .i64 (z0.getD i 0))) ∧ ∀ n ∈ z0, (Lit.int .i64 n).wf = true) (y0 : len0 * 8 ≤ 140737488351232) :
  Calls Try.prog 3 #[.slice a0 len0 cap0] w fun e w' => e = .returned (.bool true) ∧ Below w.heap.size w w' := by
 obtain ⟨l0, rfl, hr0, hm0, hw0, hc0⟩ := Zj.ofRowC w0
 obtain ⟨k, h⟩ := P l0 hm0 y0 hw0
 refine (zo.calls k _ _ l0 true w (Kd.C_of_reads (d := (0 : Int)) (h1 := fun _ => rfl) hr0) hc0 h).mono ?_
 rintro e w' ⟨rfl, hd⟩
 exact ⟨rfl, hd⟩
end Go.Proofs.Ytebehdjjkpffjaa.QPlans
end
section
namespace Go.Proofs.Ytebehdjjkpffjaa.QPlans
open Go.RowKit Go.Proofs.YtebehdjjkpffjaaW.PrintWords
def Qp (l : List S66) (v : Int) : List Int := l.flatMap fun e => (if e.f0 = v then [e.f1] else []) ++ (if e.f1 = v then [e.f0] else [])
theorem nbrs_get (N : Nat) : ∀ (l : List S66) (xss : List (List Int)) (i : Nat), EdgesIn N l → xss.length = N → i < N →
  ((l.foldl ZK xss).getD i []) = xss.getD i [] ++ Qp l i := by
 intro l
 induction l with
 | nil => intro xss i _ _ _; simp [Qp]
 | cons e r ih =>
  intro xss i he hx hi
  have h1 := he e List.mem_cons_self
  rw [List.foldl_cons, ih _ i (fun x hx => he x (List.mem_cons_of_mem _ hx)) (by rw [nbrStep_length]; exact hx) hi]
  have hs : (ZK xss e).getD i [] = xss.getD i [] ++ ((if e.f0 = (i : Int) then [e.f1] else []) ++ (if e.f1 = (i : Int) then [e.f0] else [])) := by
   unfold ZK
   rw [Qe _ _ _ _ _ (by rw [List.length_set]; omega), Qe _ _ _ _ _ (by omega)]
   by_cases ha : e.f1.toNat = i
   ·have e1 : e.f1 = (i : Int) := by omega
    have e0 : e.f0 ≠ (i : Int) := by omega
    rw [if_pos ha, if_neg e0, if_pos e1, ha]; simp
   ·have e1 : e.f1 ≠ (i : Int) := by omega
    rw [if_neg ha, if_neg e1]
    by_cases hb : e.f0.toNat = i
    ·have e0 : e.f0 = (i : Int) := by omega
     rw [if_pos hb, if_pos e0, hb]; simp
    ·have e0 : e.f0 ≠ (i : Int) := by omega
     rw [if_neg hb, if_neg e0]; simp
  rw [hs, List.append_assoc]
  rfl
theorem nbrs_ends (N : Nat) (l : List S66) (he : EdgesIn N l) (i : Nat) (hi : i < N) : (nbrs N l).getD i [] = Qp l i := by
 unfold nbrs
 rw [nbrs_get N l _ i he (by simp) hi]
 simp [List.getD_eq_getElem?_getD, List.getElem?_replicate, hi]
end Go.Proofs.Ytebehdjjkpffjaa.QPlans
end
section
namespace Go.Proofs.Ytebehdjjkpffjaa.QPlans
open Go.RowKit Go.Proofs.YtebehdjjkpffjaaW.PrintWords Go.Proofs.YtebehdjjkpffjaaW.PrintLast Go.Proofs.YtebehdjjkpffjaaW.PrintMore
theorem ins_ok (l : List Int) (x : Int) (i : Nat) (hp : l.Pairwise (· < ·)) (h1 : ∀ y ∈ l.take i, y < x) (h2 : ∀ y ∈ l.drop i, x < y) :
  (l.take i ++ [x] ++ l.drop i).Pairwise (· < ·) ∧ (∀ y, y ∈ l.take i ++ [x] ++ l.drop i ↔ y ∈ l ∨ y = x) ∧ (l.take i ++ [x] ++ l.drop i).length = l.length + 1 := by
 have hp' : (l.take i ++ l.drop i).Pairwise (· < ·) := by rw [List.take_append_drop]; exact hp
 rw [List.pairwise_append] at hp'
 refine ⟨?_, fun y => ?_, ?_⟩
 ·rw [List.append_assoc, List.pairwise_append]
  refine ⟨hp'.1, ?_, fun a ha b hb => ?_⟩
  ·rw [List.singleton_append, List.pairwise_cons]
   exact ⟨h2, hp'.2.1⟩
  ·rw [List.singleton_append, List.mem_cons] at hb
   rcases hb with rfl | hb
   ·exact h1 a ha
   ·exact hp'.2.2 a ha b hb
 ·have : y ∈ l ↔ y ∈ l.take i ∨ y ∈ l.drop i := by rw [← List.mem_append, List.take_append_drop]
  rw [this]
  simp only [List.mem_append, List.mem_singleton]
  constructor
  ·rintro ((h | h) | h)
   ·exact .inl (.inl h)
   ·exact .inr h
   ·exact .inl (.inr h)
  ·rintro ((h | h) | h)
   ·exact .inl (.inl h)
   ·exact .inr h
   ·exact .inl (.inr h)
 ·simp only [List.length_append, List.length_singleton, List.length_take, List.length_drop]; omega
theorem put_from (l : List Int) (x : Int) (hp : l.Pairwise (· < ·)) (hl : l.length ≤ 100000) : ∀ d i : Nat, i + d = l.length → (∀ y ∈ l.take i, y < x) →
  ∃ r, Ev (fun k => zK.l0 k l x i) r ∧ r.Pairwise (· < ·) ∧ (∀ y, y ∈ r ↔ y ∈ l ∨ y = x) ∧ r.length ≤ l.length + 1 := by
 have tail : ∀ i : Nat, i ≤ l.length → ((some (l.take ((i : Int)).toNat : List Int)).bind fun y399 => (if ([] : List Int).length + y399.length < 17592186044416 then ((some (([] : List Int) ++ y399 : List Int)).bind fun y403 => (if y403.length < 17592186044416 then ((some (y403 ++ [x] : List Int)).bind fun y406 => ((some (l.drop ((i : Int)).toNat : List Int)).bind fun y409 => (if y406.length + y409.length < 17592186044416 then (some (y406 ++ y409)) else (none)))) else (none))) else (none))) = some (l.take i ++ [x] ++ l.drop i) := by
  intro i hi
  simp only [Option.bind_some, Int.toNat_natCast, List.nil_append, List.length_nil]
  rw [if_pos (by rw [List.length_take]; omega), if_pos (by rw [List.length_take]; omega), if_pos (by simp only [List.length_append, List.length_singleton, List.length_take, List.length_drop]; omega)]
 intro d
 induction d with
 | zero =>
  intro i hi hlt
  obtain ⟨h1, h2, h3⟩ := ins_ok l x i hp hlt (by rw [List.drop_eq_nil_of_le (by omega)]; simp)
  refine ⟨_, Ev.step (f := fun _ => some (l.take i ++ [x] ++ l.drop i)) (fun k => ?_) (Ev.now _), h1, h2, by omega⟩
  simp only [zK.l0]
  rw [if_neg (by omega), if_pos (by omega), if_pos (by omega)]
  exact tail i (by omega)
 | succ d ih =>
  intro i hi hlt
  have hil : i < l.length := by omega
  have er : rd l (i : Int) = l[i] := Zv _ _ hil
  have hd : ∀ y ∈ l.drop i, l[i] ≤ y := by
   intro y hy
   rw [List.drop_eq_getElem_cons hil, List.mem_cons] at hy
   have hp' : (l.take i ++ l.drop i).Pairwise (· < ·) := by rw [List.take_append_drop]; exact hp
   rw [List.pairwise_append] at hp'
   have h2 := hp'.2.1
   rw [List.drop_eq_getElem_cons hil, List.pairwise_cons] at h2
   rcases hy with rfl | hy
   ·omega
   ·have := h2.1 y hy; omega
  by_cases h1 : l[i] < x
  ·obtain ⟨r, hev, hr⟩ := ih (i + 1) (by omega) (fun y hy => by
    rw [List.take_succ_eq_append_getElem hil, List.mem_append, List.mem_singleton] at hy
    rcases hy with hy | rfl
    ·exact hlt y hy
    ·exact h1)
   refine ⟨r, Ev.step (f := fun k => zK.l0 k l x ((i + 1 : Nat) : Int)) (fun k => ?_) hev, hr⟩
   simp only [zK.l0]
   rw [if_pos (by omega), if_pos (by omega), er, if_pos h1, wrap_small _ (by omega) (by omega)]
   rfl
  ·by_cases h2 : l[i] = x
   ·refine ⟨l, Ev.step (f := fun _ => some l) (fun k => ?_) (Ev.now _), hp, fun y => ⟨fun h => .inl h, fun h => h.elim id (fun e => by rw [e, ← h2]; exact List.getElem_mem hil)⟩, by omega⟩
    simp only [zK.l0]
    rw [if_pos (by omega), if_pos (by omega), er, if_neg h1, if_pos h2]
   ·obtain ⟨g1, g2, g3⟩ := ins_ok l x i hp hlt (fun y hy => by have := hd y hy; omega)
    refine ⟨_, Ev.step (f := fun _ => some (l.take i ++ [x] ++ l.drop i)) (fun k => ?_) (Ev.now _), g1, g2, by omega⟩
    simp only [zK.l0]
    rw [if_pos (by omega), if_pos (by omega), er, if_neg h1, if_neg h2, if_pos (by omega)]
    exact tail i (by omega)
end Go.Proofs.Ytebehdjjkpffjaa.QPlans
end
section
namespace Go.Proofs.Ytebehdjjkpffjaa.QPlans
open Go.RowKit Go.Proofs.YtebehdjjkpffjaaW.PrintWords Go.Proofs.YtebehdjjkpffjaaW.PrintLast Go.Proofs.YtebehdjjkpffjaaW.PrintMore
theorem of_from (l : List Int) (hl : l.length ≤ 10000) : ∀ (d i : Nat) (acc : List Int), i + d = l.length → acc.Pairwise (· < ·) → acc.length ≤ i → (∀ y, y ∈ acc ↔ y ∈ l.take i) →
  ∃ r, Ev (fun k => zS.l0 k acc l (l.length : Int) i) r ∧ r.Pairwise (· < ·) ∧ (∀ y, y ∈ r ↔ y ∈ l) ∧ r.length ≤ l.length := by
 intro d
 induction d with
 | zero =>
  intro i acc hi hp hal hm
  refine ⟨acc, Ev.step (f := fun _ => some acc) (fun k => ?_) (Ev.now _), hp, fun y => ?_, by omega⟩
  ·simp only [zS.l0]; rw [if_neg (by omega)]
  ·rw [hm, List.take_of_length_le (by omega)]
 | succ d ih =>
  intro i acc hi hp hal hm
  have hil : i < l.length := by omega
  obtain ⟨r1, hev1, hp1, hm1, hl1⟩ := put_from acc l[i] hp (by omega) acc.length 0 (by omega) (by simp)
  obtain ⟨r, hev, hr⟩ := ih (i + 1) r1 (by omega) hp1 (by omega) (fun y => by rw [hm1, hm, List.take_succ_eq_append_getElem hil, List.mem_append, List.mem_singleton])
  refine ⟨r, Ev.step (f := fun k => (zK.f k acc l[i]).bind fun t => zS.l0 k t l (l.length : Int) ((i + 1 : Nat) : Int)) (fun k => ?_) (Ev.bind (a := r1) hev1 hev), hr⟩
  simp only [zS.l0]
  rw [if_pos (by omega), if_pos (by omega), if_pos (by omega), Zv _ _ hil, wrap_small _ (by omega) (by omega)]
  rfl
theorem of_ev (l : List Int) (hl : l.length ≤ 10000) : ∃ r, Ev (fun k => zS.f k l) r ∧ r.Pairwise (· < ·) ∧ (∀ y, y ∈ r ↔ y ∈ l) ∧ r.length ≤ l.length :=
 of_from l hl l.length 0 [] (by omega) List.Pairwise.nil (by simp) (by simp)
theorem has_from (l : List Int) (x : Int) (hl : l.length ≤ 10000) : ∀ (d i : Nat), i + d = l.length → x ∉ l.take i → Ev (fun k => qa.l0 k x l (l.length : Int) i) (decide (x ∈ l)) := by
 intro d
 induction d with
 | zero =>
  intro i hi hm
  rw [List.take_of_length_le (by omega)] at hm
  refine Ev.step (f := fun _ => some (decide (x ∈ l))) (fun k => ?_) (Ev.now _)
  simp only [qa.l0]; rw [if_neg (by omega), decide_eq_false hm]
 | succ d ih =>
  intro i hi hm
  have hil : i < l.length := by omega
  by_cases h : l[i] = x
  ·refine Ev.step (f := fun _ => some (decide (x ∈ l))) (fun k => ?_) (Ev.now _)
   simp only [qa.l0]
   rw [if_pos (by omega), if_pos (by omega), if_pos (by omega), Zv _ _ hil, if_pos h, decide_eq_true (by rw [← h]; exact List.getElem_mem hil)]
  ·refine Ev.step (f := fun k => qa.l0 k x l (l.length : Int) ((i + 1 : Nat) : Int)) (fun k => ?_) (ih (i + 1) (by omega) (by rw [List.take_succ_eq_append_getElem hil, List.mem_append, List.mem_singleton]; rintro (h' | h'); exact hm h'; exact h h'.symm))
   simp only [qa.l0]
   rw [if_pos (by omega), if_pos (by omega), if_pos (by omega), Zv _ _ hil, if_neg h, wrap_small _ (by omega) (by omega)]
   rfl
theorem minus_from (l b : List Int) (hl : l.length ≤ 10000) (hb : b.length ≤ 10000) (hp : l.Pairwise (· < ·)) : ∀ (d i : Nat), i + d = l.length →
  Ev (fun k => zD.l0 k b ((l.take i).filter fun y => decide (y ∉ b)) l (l.length : Int) i) (l.filter fun y => decide (y ∉ b)) := by
 intro d
 induction d with
 | zero =>
  intro i hi
  rw [List.take_of_length_le (by omega)]
  refine Ev.step (f := fun _ => some (l.filter fun y => decide (y ∉ b))) (fun k => ?_) (Ev.now _)
  simp only [zD.l0]; rw [if_neg (by omega)]
 | succ d ih =>
  intro i hi
  have hil : i < l.length := by omega
  have hh := has_from b l[i] hb b.length 0 (by omega) (by simp)
  have ht : (l.take (i + 1)).filter (fun y => decide (y ∉ b)) = (l.take i).filter (fun y => decide (y ∉ b)) ++ [l[i]].filter (fun y => decide (y ∉ b)) := by
   rw [List.take_succ_eq_append_getElem hil, List.filter_append]
  have hlen : ((l.take i).filter fun y => decide (y ∉ b)).length ≤ 10000 := Nat.le_trans (List.length_filter_le _ _) (by rw [List.length_take]; omega)
  have hnext := ih (i + 1) (by omega)
  refine Ev.step (f := fun k => (qa.f k b l[i]).bind fun t => if t = true then zD.l0 k b ((l.take i).filter fun y => decide (y ∉ b)) l (l.length : Int) ((i + 1 : Nat) : Int) else zD.l0 k b (((l.take i).filter fun y => decide (y ∉ b)) ++ [l[i]]) l (l.length : Int) ((i + 1 : Nat) : Int)) (fun k => ?_) (Ev.bind (a := decide (l[i] ∈ b)) hh ?_)
  ·simp only [zD.l0]
   rw [if_pos (by omega), if_pos (by omega), if_pos (by omega), Zv _ _ hil, wrap_small _ (by omega) (by omega)]
   congr 1
   funext t
   split
   ·rfl
   ·rw [if_pos (by omega)]; rfl
  ·by_cases h : l[i] ∈ b
   ·simp only [decide_eq_true h, if_true]
    rw [ht] at hnext
    simpa [h] using hnext
   ·simp only [decide_eq_false h, Bool.false_eq_true, if_false]
    rw [ht] at hnext
    simpa [h] using hnext
theorem minus_ev (a b : List Int) (ha : a.length ≤ 10000) (hb : b.length ≤ 10000) : ∃ r, Ev (fun k => zD.f k a b) r ∧ r.Pairwise (· < ·) ∧ (∀ y, y ∈ r ↔ y ∈ a ∧ y ∉ b) := by
 obtain ⟨s, hev, hp, hm, hl⟩ := of_ev a ha
 refine ⟨s.filter fun y => decide (y ∉ b), Ev.bind (a := s) hev (minus_from s b (by omega) hb hp s.length 0 (by omega)), hp.filter _, fun y => ?_⟩
 rw [List.mem_filter, hm]
 simp
end Go.Proofs.Ytebehdjjkpffjaa.QPlans
end
section
namespace Go.Proofs.Ytebehdjjkpffjaa.QPlans
open Go.RowKit Go.Proofs.YtebehdjjkpffjaaW.PrintWords Go.Proofs.YtebehdjjkpffjaaW.PrintLast Go.Proofs.YtebehdjjkpffjaaW.PrintMore
theorem endsOf_len (l : List S66) (v : Int) : (Qp l v).length ≤ 2 * l.length := by
 induction l with
 | nil => simp [Qp]
 | cons e r ih =>
  have : Qp (e :: r) v = ((if e.f0 = v then [e.f1] else []) ++ (if e.f1 = v then [e.f0] else [])) ++ Qp r v := rfl
  rw [this, List.length_append, List.length_append, List.length_cons]
  split <;> split <;> simp <;> omega
theorem near_from (l : List S66) (v : Int) (hl : l.length ≤ 4096) (r : List Int) (hr : Ev (fun k => zS.f k (Qp l v)) r) : ∀ (d i : Nat), i + d = l.length →
  Ev (fun k => zA.l0 k v (Qp (l.take i) v) l (l.length : Int) i) r := by
 intro d
 induction d with
 | zero =>
  intro i hi
  rw [List.take_of_length_le (by omega)]
  refine Ev.step (f := fun k => (zS.f k (Qp l v)).bind fun t => some t) (fun k => ?_) (Ev.bind (a := r) hr (Ev.now _))
  simp only [zA.l0]; rw [if_neg (by omega)]
 | succ d ih =>
  intro i hi
  have hil : i < l.length := by omega
  have hn := ih (i + 1) (by omega)
  have hlen := endsOf_len (l.take i) v
  rw [List.length_take] at hlen
  have ht : Qp (l.take (i + 1)) v = Qp (l.take i) v ++ ((if l[i].f0 = v then [l[i].f1] else []) ++ (if l[i].f1 = v then [l[i].f0] else [])) := by
   rw [List.take_succ_eq_append_getElem hil]
   unfold Qp
   rw [List.flatMap_append]
   simp
  rw [ht] at hn
  refine Ev.step (k := hn) (fun k => ?_)
  simp only [zA.l0]
  rw [if_pos (by omega), if_pos (by omega), if_pos (by omega), rd66_nat _ _ hil, wrap_small _ (by omega) (by omega)]
  by_cases h0 : l[i].f0 = v
  ·rw [if_pos h0, if_pos (by omega)]
   simp only [Option.bind_some]
   by_cases h1 : l[i].f1 = v
   ·rw [if_pos h1, if_pos (by rw [List.length_append, List.length_singleton]; omega), if_pos h0, if_pos h1, List.append_assoc]; rfl
   ·rw [if_neg h1, if_pos h0, if_neg h1]; simp
  ·rw [if_neg h0]
   by_cases h1 : l[i].f1 = v
   ·rw [if_pos h1, if_pos (by omega), if_neg h0, if_pos h1]; simp
   ·rw [if_neg h1, if_neg h0, if_neg h1]; simp
end Go.Proofs.Ytebehdjjkpffjaa.QPlans
end
section
namespace Go.Proofs.Ytebehdjjkpffjaa.QPlans
open Go.RowKit Go.Proofs.YtebehdjjkpffjaaW.PrintWords Go.Proofs.YtebehdjjkpffjaaW.PrintLast Go.Proofs.YtebehdjjkpffjaaW.PrintMore
def At (l : List Int) (s : Int) : Prop := 0 ≤ s ∧ s ≤ l.length
theorem mod_ok (x a : Int) (h1 : 1 ≤ a) (h2 : a ≤ 1000) : ∃ y, Ze.f x a = some y ∧ 0 ≤ y ∧ y < a := by
 unfold Ze.f
 rw [if_neg (by omega)]
 have h3 := Int.tmod_lt_of_pos x (show 0 < a by omega)
 have h4 : -a < Int.tmod x a := by
  have := Int.tmod_lt_of_pos (-x) (show 0 < a by omega)
  rw [Int.neg_tmod] at this
  omega
 refine ⟨_, rfl, ?_, ?_⟩
 ·rw [wrap_small _ (by omega) (by omega)]
  exact Int.tmod_nonneg _ (by omega)
 ·exact Int.tmod_lt_of_pos _ (by omega)
theorem next_ok (l : List Int) (s a : Int) (hl : l.length ≤ 1000) (hs : At l s) (h1 : 1 ≤ a) (h2 : a ≤ 1000) : ∃ x s', zJ.f l s a = some (x, s') ∧ 0 ≤ x ∧ x < a ∧ At l s' := by
 unfold zJ.f
 rw [if_neg (by omega)]
 by_cases h : s ≥ (l.length : Int)
 ·rw [if_pos h]; exact ⟨0, s, rfl, by omega, by omega, hs⟩
 ·rw [if_neg h, if_pos hs.1, if_pos (by omega)]
  obtain ⟨y, e, h3, h4⟩ := mod_ok (rd l s) a h1 h2
  rw [e]
  have := hs.1
  refine ⟨y, wrap64 (s + 1), rfl, h3, h4, ?_⟩
  rw [wrap_small _ (by omega) (by omega)]
  exact ⟨by omega, by omega⟩
theorem numbers_ev (l : List Int) (hl : l.length ≤ 1000) (n a : Int) (hn0 : 0 ≤ n) (hn : n ≤ 64) (h1 : 1 ≤ a) (h2 : a ≤ 1000) : ∀ (d : Nat) (i : Int) (s : Int) (acc : List Int), i + d = n → 0 ≤ i → At l s → (acc.length : Int) = i → (∀ x ∈ acc, 0 ≤ x ∧ x < a) →
  ∃ r s', Ev (fun k => zI.l0 k n a acc i l s) (r, s') ∧ (r.length : Int) = n ∧ (∀ x ∈ r, 0 ≤ x ∧ x < a) ∧ At l s' := by
 intro d
 induction d with
 | zero =>
  intro i s acc hi h0 hs hal ha
  exact ⟨acc, s, Ev.step (f := fun _ => some (acc, s)) (fun k => by simp only [zI.l0]; rw [if_neg (by omega)]) (Ev.now _), by omega, ha, hs⟩
 | succ d ih =>
  intro i s acc hi h0 hs hal ha
  obtain ⟨x, s', e, hx0, hx1, hs'⟩ := next_ok l s a hl hs h1 h2
  obtain ⟨r, s2, hev, hr1, hr2, hr3⟩ := ih (i + 1) s' (acc ++ [x]) (by omega) (by omega) hs' (by simp; omega) (by intro y hy; rw [List.mem_append, List.mem_singleton] at hy; rcases hy with hy | rfl; exact ha y hy; exact ⟨hx0, hx1⟩)
  refine ⟨r, s2, Ev.step (f := fun k => zI.l0 k n a (acc ++ [x]) (i + 1) l s') (fun k => ?_) hev, hr1, hr2, hr3⟩
  simp only [zI.l0]
  rw [if_pos (by omega), e]
  simp only [Option.bind_some]
  rw [if_pos (by omega), wrap_small _ (by omega) (by omega)]
theorem set_ev (l : List Int) (hl : l.length ≤ 1000) (n : Int) (hn0 : 0 ≤ n) (hn : n ≤ 64) : ∀ (d : Nat) (i : Int) (s : Int) (acc : List Int), i + d = n → 0 ≤ i → At l s → (acc.length : Int) ≤ i → (∀ x ∈ acc, 0 ≤ x ∧ x < i) → acc.Pairwise (· < ·) →
  ∃ r s', Ev (fun k => zV.l0 k n acc i l s) (r, s') ∧ (∀ x ∈ r, 0 ≤ x ∧ x < n) ∧ r.Pairwise (· < ·) ∧ (r.length : Int) ≤ n ∧ At l s' := by
 intro d
 induction d with
 | zero =>
  intro i s acc hi h0 hs hal ha hp
  exact ⟨acc, s, Ev.step (f := fun _ => some (acc, s)) (fun k => by simp only [zV.l0]; rw [if_neg (by omega)]) (Ev.now _), fun x hx => by have := ha x hx; omega, hp, by omega, hs⟩
 | succ d ih =>
  intro i s acc hi h0 hs hal ha hp
  obtain ⟨x, s', e, hx0, hx1, hs'⟩ := next_ok l s 2 hl hs (by omega) (by omega)
  by_cases hx : x = 1
  ·obtain ⟨r, s2, hev, hr⟩ := ih (i + 1) s' (acc ++ [i]) (by omega) (by omega) hs' (by simp; omega) (by
    intro y hy; rw [List.mem_append, List.mem_singleton] at hy
    rcases hy with hy | rfl
    ·have := ha y hy; omega
    ·omega) (by
    rw [List.pairwise_append]
    exact ⟨hp, List.pairwise_singleton _ _, fun a h b hb => by rw [List.mem_singleton] at hb; subst hb; exact (ha a h).2⟩)
   refine ⟨r, s2, Ev.step (f := fun k => zV.l0 k n (acc ++ [i]) (i + 1) l s') (fun k => ?_) hev, hr⟩
   simp only [zV.l0]
   rw [if_pos (by omega), e]
   simp only [Option.bind_some]
   rw [if_pos hx, if_pos (by omega), wrap_small _ (by omega) (by omega)]
  ·obtain ⟨r, s2, hev, hr⟩ := ih (i + 1) s' acc (by omega) (by omega) hs' (by omega) (fun y hy => by have := ha y hy; omega) hp
   refine ⟨r, s2, Ev.step (f := fun k => zV.l0 k n acc (i + 1) l s') (fun k => ?_) hev, hr⟩
   simp only [zV.l0]
   rw [if_pos (by omega), e]
   simp only [Option.bind_some]
   rw [if_neg hx, wrap_small _ (by omega) (by omega)]
theorem plan_ev (l : List Int) (hl : l.length ≤ 1000) (s n : Int) (hn0 : 0 ≤ n) (hn : n ≤ 64) (hs : At l s) :
  ∃ W O H s', Ev (fun k => qf.f k l s n) (W, O, H, s') ∧ 1 ≤ W ∧ W ≤ 4 ∧ (O.length : Int) = n ∧ (∀ x ∈ O, 0 ≤ x ∧ x < W) ∧ (∀ x ∈ H, 0 ≤ x ∧ x < n) ∧ H.Pairwise (· < ·) ∧ (H.length : Int) ≤ n ∧ At l s' := by
 obtain ⟨x, s1, e1, hx0, hx1, hs1⟩ := next_ok l s 4 hl hs (by omega) (by omega)
 have ew : wrap64 (1 + x) = 1 + x := wrap_small _ (by omega) (by omega)
 obtain ⟨O, s2, h2, hO1, hO2, hs2⟩ := numbers_ev l hl n (1 + x) hn0 hn (by omega) (by omega) n.toNat 0 s1 [] (by omega) (by omega) hs1 rfl (by simp)
 obtain ⟨y, s3, e3, hy0, hy1, hs3⟩ := next_ok l s2 2 hl hs2 (by omega) (by omega)
 by_cases hy : y = 1
 ·obtain ⟨H, s4, h4, hH1, hH2, hH3, hs4⟩ := set_ev l hl n hn0 hn n.toNat 0 s3 [] (by omega) (by omega) hs3 (by simp) (by simp) List.Pairwise.nil
  refine ⟨1 + x, O, H, s4, ?_, by omega, by omega, hO1, hO2, hH1, hH2, hH3, hs4⟩
  refine Ev.congr (f := fun k => (zI.f k l s1 n (1 + x)).bind fun b => (zJ.f l b.2 2).bind fun c => if c.1 = 1 then (zV.f k l c.2 n).bind fun d => some (1 + x, b.1, d.1, d.2) else some (1 + x, b.1, [], c.2)) (fun k => by simp only [qf.f, e1, Option.bind_some, ew]) ?_
  refine Ev.bind (a := (O, s2)) h2 ?_
  simp only [e3, Option.bind_some, if_pos hy]
  exact Ev.bind (a := (H, s4)) h4 (Ev.now _)
 ·refine ⟨1 + x, O, [], s3, ?_, by omega, by omega, hO1, hO2, by simp, List.Pairwise.nil, by simpa using hn0, hs3⟩
  refine Ev.congr (f := fun k => (zI.f k l s1 n (1 + x)).bind fun b => (zJ.f l b.2 2).bind fun c => if c.1 = 1 then (zV.f k l c.2 n).bind fun d => some (1 + x, b.1, d.1, d.2) else some (1 + x, b.1, [], c.2)) (fun k => by simp only [qf.f, e1, Option.bind_some, ew]) ?_
  refine Ev.bind (a := (O, s2)) h2 ?_
  simp only [e3, Option.bind_some, if_neg hy]
  exact Ev.now _
end Go.Proofs.Ytebehdjjkpffjaa.QPlans
end
section
namespace Go.Proofs.Ytebehdjjkpffjaa.QPlans
open Go.RowKit Go.Proofs.YtebehdjjkpffjaaW.PrintWords Go.Proofs.YtebehdjjkpffjaaW.PrintLast Go.Proofs.YtebehdjjkpffjaaW.PrintMore
def ltE (q e : S66) : Prop := q.f0 < e.f0 ∨ q.f0 = e.f0 ∧ q.f1 < e.f1
theorem edgesErr_cons {n : Int} {p : Option S66} {e : S66} {r : List S66} (hb : ZP n e = false) (hp : ∀ q, p = some q → ltE q e) : Zg n p (e :: r) = Zg n (some e) r := by
 show (if ZP n e = true then _ else _) = _
 rw [if_neg (by rw [hb]; exact Bool.false_ne_true)]
 cases p with
 | none => rw [if_neg (by simp)]
 | some q =>
  have h := hp q rfl
  rw [if_neg]
  simp only [decide_eq_true_eq]
  rw [ordE_neg, Classical.not_not]
  exact h
theorem edgesErr_uncons {n : Int} {p : Option S66} {e : S66} {r : List S66} (h : Zg n p (e :: r) = 0) : ZP n e = false ∧ (∀ q, p = some q → ltE q e) ∧ Zg n (some e) r = 0 := by
 have h' := h
 unfold Zg at h'
 cases hb : ZP n e with
 | true => rw [hb, if_pos rfl] at h'; cases h'
 | false =>
  rw [hb, if_neg Bool.false_ne_true] at h'
  cases p with
  | none => rw [if_neg (by simp)] at h'; exact ⟨rfl, fun q hq => (by cases hq), h'⟩
  | some q =>
   by_cases ho : ordE q.f0 q.f1 e.f0 e.f1 ≥ 0
   ·rw [if_pos (by simpa using ho)] at h'; cases h'
   ·rw [if_neg (by simpa using ho)] at h'
    rw [ordE_neg, Classical.not_not] at ho
    exact ⟨rfl, fun q' hq => (by injection hq with hq; subst hq; exact ho), h'⟩
theorem edgesErr_snoc {n : Int} {e : S66} (hb : ZP n e = false) : ∀ (l : List S66) (p : Option S66), Zg n p l = 0 → (∀ q, p = some q → ltE q e) → (∀ q ∈ l, ltE q e) → Zg n p (l ++ [e]) = 0
 | [], p, _, hp, _ => by rw [List.nil_append, edgesErr_cons hb hp]; rfl
 | x :: r, p, h, hp, hl => by
  obtain ⟨h1, h2, h3⟩ := edgesErr_uncons h
  rw [List.cons_append, edgesErr_cons h1 h2]
  exact edgesErr_snoc hb r (some x) h3 (fun q hq => by injection hq with hq; subst hq; exact hl _ List.mem_cons_self) (fun q hq => hl q (List.mem_cons_of_mem _ hq))
theorem graph_loop (l : List Int) (hl : l.length ≤ 1000) (n x6 : Int) (hn0 : 0 ≤ n) (hn : n ≤ 64) (hx : -100 ≤ x6 ∧ x6 ≤ 100) : ∀ (m : Nat),
  (∀ (u : Int) (s : Int) (acc : List S66), u + m = n → 0 ≤ u → At l s → Zg n none acc = 0 → (∀ q ∈ acc, q.f0 < u) →
   ∃ r s', Ev (fun k => zw.l0 k x6 u l s n acc) (n, r, s') ∧ Zg n none r = 0 ∧ At l s') := by
 intro m
 induction m with
 | zero =>
  intro u s acc hu h0 hs he hq
  exact ⟨acc, s, Ev.step (f := fun _ => some (n, acc, s)) (fun k => by simp only [zw.l0]; rw [if_neg (by omega)]) (Ev.now _), he, hs⟩
 | succ m ih =>
  have inner : ∀ (d : Nat) (u v s : Int) (acc : List S66), u + (m + 1 : Nat) = n → 0 ≤ u → v + d = n → u < v → At l s → Zg n none acc = 0 → (∀ q ∈ acc, q.f0 < u ∨ q.f0 = u ∧ q.f1 < v) →
    ∃ r s', Ev (fun k => zw.l1 k x6 u v l s n acc) (n, r, s') ∧ Zg n none r = 0 ∧ At l s' := by
   intro d
   induction d with
   | zero =>
    intro u v s acc hu h0 hv huv hs he hq
    obtain ⟨r, s', hev, hr⟩ := ih (u + 1) s acc (by omega) (by omega) hs he (fun q hm => by have := hq q hm; omega)
    refine ⟨r, s', Ev.step (f := fun k => zw.l0 k x6 (u + 1) l s n acc) (fun k => ?_) hev, hr⟩
    simp only [zw.l1]
    rw [if_neg (by omega), wrap_small _ (by omega) (by omega)]
   | succ d ihd =>
    intro u v s acc hu h0 hv huv hs he hq
    obtain ⟨x, s1, e1, hx0, hx1, hs1⟩ := next_ok l s 5 hl hs (by omega) (by omega)
    have hlen : acc.length ≤ 4096 := by
     have := (edgesErr_ok n hn acc none he (fun q h => by cases h)).2
     simp only at this
     omega
    have ev : wrap64 (v + 1) = v + 1 := wrap_small _ (by omega) (by omega)
    by_cases hc : x ≥ wrap64 (5 - x6)
    ·obtain ⟨r, s', hev, hr⟩ := ihd u (v + 1) s1 (acc ++ [⟨u, v⟩]) hu h0 (by omega) (by omega) hs1 (edgesErr_snoc (e := ⟨u, v⟩) (by simp [ZP]; omega) acc none he (fun q h => by cases h) (fun q hm => hq q hm)) (fun q hm => by
      rw [List.mem_append, List.mem_singleton] at hm
      rcases hm with hm | rfl
      ·have := hq q hm; omega
      ·right; exact ⟨rfl, by show v < v + 1; omega⟩)
     refine ⟨r, s', Ev.step (f := fun k => zw.l1 k x6 u (v + 1) l s1 n (acc ++ [⟨u, v⟩])) (fun k => ?_) hev, hr⟩
     simp only [zw.l1]
     rw [if_pos (by omega), e1]
     simp only [Option.bind_some]
     rw [if_pos hc, if_pos (by omega), ev]
    ·obtain ⟨r, s', hev, hr⟩ := ihd u (v + 1) s1 acc hu h0 (by omega) (by omega) hs1 he (fun q hm => by have := hq q hm; omega)
     refine ⟨r, s', Ev.step (f := fun k => zw.l1 k x6 u (v + 1) l s1 n acc) (fun k => ?_) hev, hr⟩
     simp only [zw.l1]
     rw [if_pos (by omega), e1]
     simp only [Option.bind_some]
     rw [if_neg hc, ev]
  intro u s acc hu h0 hs he hq
  obtain ⟨r, s', hev, hr⟩ := inner m u (u + 1) s acc hu h0 (by omega) (by omega) hs he (fun q hm => .inl (hq q hm))
  refine ⟨r, s', Ev.step (f := fun k => zw.l1 k x6 u (u + 1) l s n acc) (fun k => ?_) hev, hr⟩
  simp only [zw.l0]
  rw [if_pos (by omega), wrap_small _ (by omega) (by omega)]
theorem graph_ev (l : List Int) (hl : l.length ≤ 1000) (s most : Int) (hm0 : 4 ≤ most) (hm : most ≤ 60) (hs : At l s) :
  ∃ n E s', Ev (fun k => zw.f k l s most) (n, E, s') ∧ 0 ≤ n ∧ n ≤ most ∧ Zn n E = 0 ∧ At l s' := by
 have fin : ∀ (n s1 : Int), 0 ≤ n → n ≤ most → At l s1 → ∃ n' E s', Ev (fun k => zw.j0 k l s1 n) (n', E, s') ∧ 0 ≤ n' ∧ n' ≤ most ∧ Zn n' E = 0 ∧ At l s' := by
  intro n s1 h0 h1 hs1
  obtain ⟨x, s2, e2, hx0, hx1, hs2⟩ := next_ok l s1 4 hl hs1 (by omega) (by omega)
  have ew : wrap64 (1 + x) = 1 + x := wrap_small _ (by omega) (by omega)
  obtain ⟨r, s', hev, hr, hs'⟩ := graph_loop l hl n (1 + x) h0 (by omega) (by omega) n.toNat 0 s2 [] (by omega) (by omega) hs2 rfl (by simp)
  refine ⟨n, r, s', Ev.step (f := fun k => zw.l0 k (1 + x) 0 l s2 n []) (fun k => ?_) hev, h0, h1, ?_, hs'⟩
  ·simp only [zw.j0, e2, Option.bind_some, ew]
  ·unfold Zn
   rw [if_neg (by omega)]
   exact hr
 have em : wrap64 (most + 1) = most + 1 := wrap_small _ (by omega) (by omega)
 obtain ⟨x, s1, e1, hx0, hx1, hs1⟩ := next_ok l s (most + 1) hl hs (by omega) (by omega)
 by_cases hc : x < 4
 ·obtain ⟨y, s2, e2, hy0, hy1, hs2⟩ := next_ok l s1 (most + 1) hl hs1 (by omega) (by omega)
  have ey : wrap64 (x + y) = x + y := wrap_small _ (by omega) (by omega)
  obtain ⟨n, E, s', hev, hr⟩ := fin (mn most (x + y)) s2 (by unfold mn; split <;> omega) (by unfold mn; split <;> omega) hs2
  refine ⟨n, E, s', Ev.congr (fun k => ?_) hev, hr⟩
  simp only [zw.f, em, e1, Option.bind_some]
  rw [if_pos hc, e2]
  simp only [Option.bind_some, ey]
 ·obtain ⟨n, E, s', hev, hr⟩ := fin x s1 hx0 (by omega) hs1
  refine ⟨n, E, s', Ev.congr (fun k => ?_) hev, hr⟩
  simp only [zw.f, em, e1, Option.bind_some]
  rw [if_neg hc]
end Go.Proofs.Ytebehdjjkpffjaa.QPlans
end
