/- Contracts and lemmas on which the theorem of YtebehdjjkpffjaaRPlansz rests; no condition of their own. -/
import Derived.Test.YtebehdjjkpffjaaRPlansd
section
namespace Go.Proofs.Ytebehdjjkpffjaa.QPlans
open Go.RowKit Go.Proofs.YtebehdjjkpffjaaW.PrintWords Go.Proofs.YtebehdjjkpffjaaW.PrintLast Go.Proofs.YtebehdjjkpffjaaW.PrintMore
attribute [local go_sem] ZT ZW Ql Qm ZI ZH ZV ZR
set_option linter.unusedVariables false
set_option linter.unusedSimpArgs false
def qi.l0 : Nat → List Int → List Int → Int → Int → Int → List (S66) → Int → List Int → List Int → List (List Int) → List (List (List (S56))) → Option (List Int)
 | 0, _, _, _, _, _, _, _, _, _, _, _ => none
 | k + 1, x3, x15, x16, x17, x283000, x283001, x283002, x283003, x283004, x283005, x283006 => if x17 < x16 then (if 0 ≤ x17 then (if x17 < (x15.length : Int) then (if 0 ≤ (rd x15 x17) then (if (rd x15 x17) < (x283005.length : Int) then (if x17 < ((rd_L2 x283005 (rd x15 x17)).length : Int) then (if x17 < (x3.length : Int) then (qi.l0 k (x3.set (x17 : Int).toNat (rd (rd_L2 x283005 (rd x15 x17)) x17)) x15 x16 (wrap64 (x17 + 1)) x283000 x283001 x283002 x283003 x283004 x283005 x283006) else (none)) else (none)) else (none)) else (none)) else (none)) else (none)) else (some x3)
def qi.f (k : Nat) (a0_0 : Int) (l0_1 : List (S66)) (a0_2 : Int) (l0_3 : List Int) (l0_4 : List Int) (l0_5 : List (List Int)) (l0_6 : List (List (List (S56)))) : Option (List Int) := (qP.f a0_0 l0_1 a0_2 l0_3 l0_4 l0_5 l0_6).bind fun t283 => (if t283 = true then (if 0 ≤ a0_0 then (if (a0_0 : Int).toNat ≤ 35184372088832 then (qi.l0 k (List.replicate (a0_0 : Int).toNat 0) l0_3 (l0_3.length : Int) 0 a0_0 l0_1 a0_2 l0_3 l0_4 l0_5 l0_6) else (none)) else (none)) else (some ([] : List Int)))
theorem qi.qV : ∀ k, (∀ y0 y1 y2 y3 y4 y5 y6 y7 y8 y9 y10, LeO (qi.l0 k y0 y1 y2 y3 y4 y5 y6 y7 y8 y9 y10) (qi.l0 (k + 1) y0 y1 y2 y3 y4 y5 y6 y7 y8 y9 y10))
 | 0 => fun _ _ _ _ _ _ _ _ _ _ _ r h => by simp [qi.l0] at h
 | k + 1 => by
  have ih0 := qi.qV k
  ·intro y0 y1 y2 y3 y4 y5 y6 y7 y8 y9 y10
   unfold qi.l0
   repeat' first
   | (with_reducible exact ih0 _ _ _ _ _ _ _ _ _ _ _)
   | (with_reducible exact LeO.refl _)
   | (with_reducible exact LeO.none _)
   | (with_reducible refine LeO.ite ?_ ?_)
   | (with_reducible refine LeO.bind ?_ (fun _ => ?_))
   | exact ih0 _ _ _ _ _ _ _ _ _ _ _
   | exact LeO.none _
   | refine LeO.ite ?_ ?_
   | refine LeO.bind ?_ (fun _ => ?_)
theorem qi.mono : ∀ a0 a1 a2 a3 a4 a5 a6 k, LeO (qi.f k a0 a1 a2 a3 a4 a5 a6) (qi.f (k + 1) a0 a1 a2 a3 a4 a5 a6) := by
 intro a0 a1 a2 a3 a4 a5 a6 k
 have ih0 := qi.qV k
 unfold qi.f
 repeat' first
  | (with_reducible exact ih0 _ _ _ _ _ _ _ _ _ _ _)
  | (with_reducible exact LeO.refl _)
  | (with_reducible exact LeO.none _)
  | (with_reducible refine LeO.ite ?_ ?_)
  | (with_reducible refine LeO.bind ?_ (fun _ => ?_))
  | exact ih0 _ _ _ _ _ _ _ _ _ _ _
  | exact LeO.none _
  | refine LeO.ite ?_ ?_
  | refine LeO.bind ?_ (fun _ => ?_)
set_option maxHeartbeats 8000000 in
set_option maxRecDepth 100000 in
theorem qi.calls (k : Nat) (a0_0 : Int) (A0_1 : Option Addr) (c0_1 : Nat) (l0_1 : List (S66)) (a0_2 : Int) (A0_3 : Option Addr) (c0_3 : Nat) (l0_3 : List Int) (A0_4 : Option Addr) (c0_4 : Nat) (l0_4 : List Int) (A0_5 : Option Addr) (c0_5 : Nat) (l0_5 : List (List Int)) (A0_6 : Option Addr) (c0_6 : Nat) (l0_6 : List (List (List (S56)))) (r : List Int) (w : World) (hr0_1 : Kd.C k66 w A0_1 l0_1.length l0_1) (hc0_1 : l0_1.length ≤ c0_1) (hr0_3 : Kd.C (Kd.int .i64) w A0_3 l0_3.length l0_3) (hc0_3 : l0_3.length ≤ c0_3) (hr0_4 : Kd.C (Kd.int .i64) w A0_4 l0_4.length l0_4) (hc0_4 : l0_4.length ≤ c0_4) (hr0_5 : Kd.C (Kd.slice 3 (Kd.int .i64)) w A0_5 l0_5.length l0_5) (hc0_5 : l0_5.length ≤ c0_5) (hr0_6 : Kd.C (Kd.slice 42 (Kd.slice 56 k56)) w A0_6 l0_6.length l0_6) (hc0_6 : l0_6.length ≤ c0_6) (h : qi.f k a0_0 l0_1 a0_2 l0_3 l0_4 l0_5 l0_6 = some r) :
  Calls Try.prog 26 #[.agg #[.int .i64 a0_0, .slice A0_1 l0_1.length c0_1, .int .i64 a0_2, .slice A0_3 l0_3.length c0_3, .slice A0_4 l0_4.length c0_4, .slice A0_5 l0_5.length c0_5, .slice A0_6 l0_6.length c0_6]] w fun e w' => ∃ v0_ : Value, e = .returned (v0_) ∧ Kd.R (Kd.int .i64) 3 w' w.heap.size (fun _ => True) v0_ r ∧ Below w.heap.size w w' := by
 have hu37 := Try.underlying37
 have HR0_1 := za.mk hr0_1
 have HC0_1 := za.mk hc0_1
 clear hr0_1 hc0_1
 have HR0_3 := za.mk hr0_3
 have HC0_3 := za.mk hc0_3
 clear hr0_3 hc0_3
 have HR0_4 := za.mk hr0_4
 have HC0_4 := za.mk hc0_4
 clear hr0_4 hc0_4
 have HR0_5 := za.mk hr0_5
 have HC0_5 := za.mk hc0_5
 clear hr0_5 hc0_5
 have HR0_6 := za.mk hr0_6
 have HC0_6 := za.mk hc0_6
 clear hr0_6 hc0_6
 have HB := za.mk (Below.refl w.heap.size w)
 have H : ((qP.f a0_0 l0_1 a0_2 l0_3 l0_4 l0_5 l0_6).bind fun t283 => (if t283 = true then (if 0 ≤ a0_0 then (if (a0_0 : Int).toNat ≤ 35184372088832 then (qi.l0 k (List.replicate (a0_0 : Int).toNat 0) l0_3 (l0_3.length : Int) 0 a0_0 l0_1 a0_2 l0_3 l0_4 l0_5 l0_6) else (none)) else (none)) else (some ([] : List Int)))) = some r := h
 clear h
 replace H := Option.bind_eq_some_iff.mp H
 obtain ⟨t283, A20, H⟩ := H
 replace H : (if t283 = true then (if 0 ≤ a0_0 then (if (a0_0 : Int).toNat ≤ 35184372088832 then (qi.l0 k (List.replicate (a0_0 : Int).toNat 0) l0_3 (l0_3.length : Int) 0 a0_0 l0_1 a0_2 l0_3 l0_4 l0_5 l0_6) else (none)) else (none)) else (some ([] : List Int))) = some r := H
 have A2 := za.mk A20
 clear A20
 by_cases c3 : t283 = true
 ·subst c3
  have H1 : (if 0 ≤ a0_0 then (if (a0_0 : Int).toNat ≤ 35184372088832 then (qi.l0 k (List.replicate (a0_0 : Int).toNat 0) l0_3 (l0_3.length : Int) 0 a0_0 l0_1 a0_2 l0_3 l0_4 l0_5 l0_6) else (none)) else (none)) = some r := by rw [if_pos rfl] at H; exact H
  clear H
  have H := H1
  clear H1
  by_cases c4 : 0 ≤ a0_0
  ·rw [if_pos c4] at H
   have c4b0 := eq_true c4
   have c4b1 : decide (0 ≤ a0_0) = true := decide_eq_true c4
   clear c4
   by_cases c5 : (a0_0 : Int).toNat ≤ 35184372088832
   ·rw [if_pos c5] at H
    have c5b0 := eq_true c5
    have c5b1 : decide ((a0_0 : Int).toNat ≤ 35184372088832) = true := decide_eq_true c5
    clear c5
    obtain ⟨y284, hy284⟩ : ∃ y_ : List Int, y_ = (List.replicate (a0_0 : Int).toNat 0) := ⟨_, rfl⟩
    replace H : (qi.l0 k y284 l0_3 (l0_3.length : Int) 0 a0_0 l0_1 a0_2 l0_3 l0_4 l0_5 l0_6) = some r := by first | (rw [hy284]; with_reducible exact H) | (have H2_ := (Option.bind_some _ _).symm.trans H; rw [hy284]; with_reducible exact H2_) | (have H2_ := (Option.bind_some _ _).symm.trans H; with_reducible exact H2_) | with_reducible exact H | (rw [hy284]; exact H) | exact H
    have Ny284 := za.mk hy284
    clear hy284
    have H' := za.mk H
    clear H
    go_enter Try.func26, Try.ntmps26
    go_wp2_with (first | ((with_reducible refine qJ (N := 1) rfl ?_); refine qI ?hg (N := 1) ?hd (cs := #[.int .i64 a0_0, .slice A0_1 l0_1.length c0_1, .int .i64 a0_2, .slice A0_3 l0_3.length c0_3, .slice A0_4 l0_4.length c0_4, .slice A0_5 l0_5.length c0_5, .slice A0_6 l0_6.length c0_6]) (t := 37) ?hr ?_; (case hd => rfl); (case hg => rfl); (case hr => first | (go_simp; done) | (go_simp; rfl)); intro gb282 hg w6 hbox hb; have n0_ := za.mk (zT (by repeat (first | (with_reducible first | exact HB.out | apply zf | apply zb | apply zg) | exact HB.out)) hb); have n1_ := za.mk (hbox); have n2_ := za.mk ((by rw [hg]; exact (zB (by repeat (first | (with_reducible first | exact HB.out | apply zf | apply zb | apply zg) | exact HB.out))) : w.heap.size ≤ gb282)); have n3_ := za.mk ((by rw [hg]; exact (zB (by repeat (first | (with_reducible first | exact HB.out | apply zf | apply zb | apply zg) | exact HB.out))) : w.heap.size ≤ gb282)); clear HB; have HB := n0_; have BK282 := n1_; have GW282 := n2_; have GE282 := n3_; clear n0_ n1_ n2_ n3_; clear hb hbox hg; have hcz7_0 : w6.cell? ⟨gb282, 0, none⟩ = some (.int .i64 a0_0) := (ze BK282.out 0).trans rfl; have hcz7_1 : w6.cell? ⟨gb282, 1, none⟩ = some (.slice A0_1 l0_1.length c0_1) := (ze BK282.out 1).trans rfl; have hcz7_2 : w6.cell? ⟨gb282, 2, none⟩ = some (.int .i64 a0_2) := (ze BK282.out 2).trans rfl; have hcz7_3 : w6.cell? ⟨gb282, 3, none⟩ = some (.slice A0_3 l0_3.length c0_3) := (ze BK282.out 3).trans rfl; have hcz7_4 : w6.cell? ⟨gb282, 4, none⟩ = some (.slice A0_4 l0_4.length c0_4) := (ze BK282.out 4).trans rfl; have hcz7_5 : w6.cell? ⟨gb282, 5, none⟩ = some (.slice A0_5 l0_5.length c0_5) := (ze BK282.out 5).trans rfl; have hcz7_6 : w6.cell? ⟨gb282, 6, none⟩ = some (.slice A0_6 l0_6.length c0_6) := (ze BK282.out 6).trans rfl; have hfz7_0 := zl BK282.out 0; have hfz7_1 := zl BK282.out 1; have hfz7_2 := zl BK282.out 2; have hfz7_3 := zl BK282.out 3; have hfz7_4 := zl BK282.out 4; have hfz7_5 := zl BK282.out 5; have hfz7_6 := zl BK282.out 6) | ((with_reducible refine qc (f := 28) rfl ?_); refine qU (some 7) rfl rfl Try.func28 (by kernel_rfl) rfl #[.agg #[.int .i64 a0_0, .slice A0_1 l0_1.length c0_1, .int .i64 a0_2, .slice A0_3 l0_3.length c0_3, .slice A0_4 l0_4.length c0_4, .slice A0_5 l0_5.length c0_5, .slice A0_6 l0_6.length c0_6]] rfl (by (try simp only [List.map_toArray, List.map_cons, List.map_nil]); first | done | rfl | (simp only [List.length_drop, List.length_take]; rfl)) ?_; (with_reducible refine (qP.calls a0_0 _ _ l0_1 a0_2 _ _ l0_3 _ _ l0_4 _ _ l0_5 _ _ l0_6 true _ ?side1 ?side2 ?side3 ?side4 ?side5 ?side6 ?side7 ?side8 ?side9 ?side10 A2.out).mono ?_); (case side1 => repeat (first | exact (Kd.qB HR0_1.out HB.out) | (with_reducible refine Kd.qA ?_ _) | (with_reducible refine Kd.qz ?_ _) | (with_reducible refine Kd.qF ?_))); (case side2 => exact HC0_1.out); (case side3 => repeat (first | exact (Kd.qB HR0_3.out HB.out) | (with_reducible refine Kd.qA ?_ _) | (with_reducible refine Kd.qz ?_ _) | (with_reducible refine Kd.qF ?_))); (case side4 => exact HC0_3.out); (case side5 => repeat (first | exact (Kd.qB HR0_4.out HB.out) | (with_reducible refine Kd.qA ?_ _) | (with_reducible refine Kd.qz ?_ _) | (with_reducible refine Kd.qF ?_))); (case side6 => exact HC0_4.out); (case side7 => repeat (first | exact (Kd.qB HR0_5.out HB.out) | (with_reducible refine Kd.qA ?_ _) | (with_reducible refine Kd.qz ?_ _) | (with_reducible refine Kd.qF ?_))); (case side8 => exact HC0_5.out); (case side9 => repeat (first | exact (Kd.qB HR0_6.out HB.out) | (with_reducible refine Kd.qA ?_ _) | (with_reducible refine Kd.qz ?_ _) | (with_reducible refine Kd.qF ?_))); (case side10 => exact HC0_6.out); rintro e w8 ⟨rfl, hb⟩; refine ⟨_, rfl, ?_⟩; have n0_ := za.mk (zW (g := gb282) (o := .cells #[.int .i64 a0_0, .slice A0_1 l0_1.length c0_1, .int .i64 a0_2, .slice A0_3 l0_3.length c0_3, .slice A0_4 l0_4.length c0_4, .slice A0_5 l0_5.length c0_5, .slice A0_6 l0_6.length c0_6] 37 (0, 0)) (by (with_reducible repeat (first | refine zk ?_ _ | refine zm ?_ | refine zh ?_ _)); exact BK282.out) hb); have n1_ := za.mk (zT (by repeat (first | (with_reducible first | exact HB.out | apply zf | apply zb | apply zg | refine zi ?_ GE282.out) | exact HB.out)) hb); clear BK282; clear HB; have BK282 := n0_; have HB := n1_; clear n0_ n1_; (try clear hb); (try clear hb2); (try clear hk); (try clear hi); have hcz9_0 : w8.cell? ⟨gb282, 0, none⟩ = some (.int .i64 a0_0) := (ze BK282.out 0).trans rfl; have hcz9_1 : w8.cell? ⟨gb282, 1, none⟩ = some (.slice A0_1 l0_1.length c0_1) := (ze BK282.out 1).trans rfl; have hcz9_2 : w8.cell? ⟨gb282, 2, none⟩ = some (.int .i64 a0_2) := (ze BK282.out 2).trans rfl; have hcz9_3 : w8.cell? ⟨gb282, 3, none⟩ = some (.slice A0_3 l0_3.length c0_3) := (ze BK282.out 3).trans rfl; have hcz9_4 : w8.cell? ⟨gb282, 4, none⟩ = some (.slice A0_4 l0_4.length c0_4) := (ze BK282.out 4).trans rfl; have hcz9_5 : w8.cell? ⟨gb282, 5, none⟩ = some (.slice A0_5 l0_5.length c0_5) := (ze BK282.out 5).trans rfl; have hcz9_6 : w8.cell? ⟨gb282, 6, none⟩ = some (.slice A0_6 l0_6.length c0_6) := (ze BK282.out 6).trans rfl; have hfz9_0 := zl BK282.out 0; have hfz9_1 := zl BK282.out 1; have hfz9_2 := zl BK282.out 2; have hfz9_3 := zl BK282.out 3; have hfz9_4 := zl BK282.out 4; have hfz9_5 := zl BK282.out 5; have hfz9_6 := zl BK282.out 6) | ((with_reducible refine qJ (N := 12) rfl ?_); refine Kd.R_make (Kd.int .i64) _ 3 rfl (N := 12) rfl 22 _ _ rfl a0_0 rfl rfl Try.underlying22 (.int .i64 0) 8 info3 rfl (by decide) (by omega) 0 (ok := fun _ => True) (okp := fun _ => True) rfl (fun _ hk => hk) trivial (of_decide_eq_true (by first | (with_reducible assumption) | assumption)) (Nat.le_trans (Nat.mul_le_mul_right _ (of_decide_eq_true (by first | (with_reducible assumption) | assumption) : a0_0.toNat ≤ 35184372088832)) (by omega)) (Below.refl _ _) (Nat.le_refl _) ?_; intro v285 w10 ho11 hb hg_ hnew_; clear hg_ hnew_; (first | rw [← Ny284.out] at ho11 | (simp only [Int.reduceToNat] at ho11; rw [← Ny284.out] at ho11)); have n0_ := za.mk (Kd.qM ho11 (zB (by repeat (first | (with_reducible first | exact HB.out | apply zf | apply zb | apply zg | refine zi ?_ GE282.out) | exact HB.out)))); have n1_ := za.mk (zW (g := gb282) (o := .cells #[.int .i64 a0_0, .slice A0_1 l0_1.length c0_1, .int .i64 a0_2, .slice A0_3 l0_3.length c0_3, .slice A0_4 l0_4.length c0_4, .slice A0_5 l0_5.length c0_5, .slice A0_6 l0_6.length c0_6] 37 (0, 0)) (by (with_reducible repeat (first | refine zk ?_ _ | refine zm ?_ | refine zh ?_ _)); exact BK282.out) hb); have n2_ := za.mk (zT (by repeat (first | (with_reducible first | exact HB.out | apply zf | apply zb | apply zg | refine zi ?_ GE282.out) | exact HB.out)) hb); clear BK282; clear HB; have HO286 := n0_; have BK282 := n1_; have HB := n2_; clear n0_ n1_ n2_; clear hb ho11; have hcz12_0 : w10.cell? ⟨gb282, 0, none⟩ = some (.int .i64 a0_0) := (ze BK282.out 0).trans rfl; have hcz12_1 : w10.cell? ⟨gb282, 1, none⟩ = some (.slice A0_1 l0_1.length c0_1) := (ze BK282.out 1).trans rfl; have hcz12_2 : w10.cell? ⟨gb282, 2, none⟩ = some (.int .i64 a0_2) := (ze BK282.out 2).trans rfl; have hcz12_3 : w10.cell? ⟨gb282, 3, none⟩ = some (.slice A0_3 l0_3.length c0_3) := (ze BK282.out 3).trans rfl; have hcz12_4 : w10.cell? ⟨gb282, 4, none⟩ = some (.slice A0_4 l0_4.length c0_4) := (ze BK282.out 4).trans rfl; have hcz12_5 : w10.cell? ⟨gb282, 5, none⟩ = some (.slice A0_5 l0_5.length c0_5) := (ze BK282.out 5).trans rfl; have hcz12_6 : w10.cell? ⟨gb282, 6, none⟩ = some (.slice A0_6 l0_6.length c0_6) := (ze BK282.out 6).trans rfl; have hfz12_0 := zl BK282.out 0; have hfz12_1 := zl BK282.out 1; have hfz12_2 := zl BK282.out 2; have hfz12_3 := zl BK282.out 3; have hfz12_4 := zl BK282.out 4; have hfz12_5 := zl BK282.out 5; have hfz12_6 := zl BK282.out 6))
    go_loopg [17] k (fun kq v17 w' => ∃ (x3_1 : List Int) (x17_1 : Int), v17 = .int .i64 x17_1 ∧ za (qi.l0 kq x3_1 l0_3 (l0_3.length : Int) x17_1 a0_0 l0_1 a0_2 l0_3 l0_4 l0_5 l0_6 = some r) ∧ za (kq ≤ k) ∧ za (Kd.R (Kd.int .i64) 3 w' w.heap.size (fun _ => True) v285 x3_1) ∧ za (w'.heap[gb282]? = some (.cells #[.int .i64 a0_0, (.slice A0_1 l0_1.length c0_1), .int .i64 a0_2, (.slice A0_3 l0_3.length c0_3), (.slice A0_4 l0_4.length c0_4), (.slice A0_5 l0_5.length c0_5), (.slice A0_6 l0_6.length c0_6)] 37 (0, 0))) ∧ za (Below w.heap.size w w'))
    case atStart => exact ⟨(y284), (0), (by first | rfl | (simp; done) | (simp [*]; done)), H', ⟨Nat.le_refl _⟩, ⟨by (with_reducible repeat (first | apply Kd.zn | apply Kd.zq | apply Kd.zu)); exact HO286.out⟩, ⟨by (with_reducible repeat (first | refine zk ?_ _ | refine zm ?_ | refine zh ?_ _)); exact BK282.out⟩, ⟨by repeat (first | (with_reducible first | exact HB.out | apply zf | apply zb | apply zg | refine zi ?_ GE282.out) | exact HB.out)⟩⟩
    case round =>
     clear H'
     try clear c2
     try clear p2
     try clear c3
     try clear c4
     try clear c4b0
     try clear c4b1
     try clear c5
     try clear c5b0
     try clear c5b1
     try clear hcz12_0
     try clear hcz12_1
     try clear hcz12_2
     try clear hcz12_3
     try clear hcz12_4
     try clear hcz12_5
     try clear hcz12_6
     try clear hcz7_0
     try clear hcz7_1
     try clear hcz7_2
     try clear hcz7_3
     try clear hcz7_4
     try clear hcz7_5
     try clear hcz7_6
     try clear hcz9_0
     try clear hcz9_1
     try clear hcz9_2
     try clear hcz9_3
     try clear hcz9_4
     try clear hcz9_5
     try clear hcz9_6
     try clear hfz12_0
     try clear hfz12_1
     try clear hfz12_2
     try clear hfz12_3
     try clear hfz12_4
     try clear hfz12_5
     try clear hfz12_6
     try clear hfz7_0
     try clear hfz7_1
     try clear hfz7_2
     try clear hfz7_3
     try clear hfz7_4
     try clear hfz7_5
     try clear hfz7_6
     try clear hfz9_0
     try clear hfz9_1
     try clear hfz9_2
     try clear hfz9_3
     try clear hfz9_4
     try clear hfz9_5
     try clear hfz9_6
     obtain ⟨x3_1, x17_1, rfl, HA, HK1, HO_3, BK282, HB⟩ := hrel
     cases gk with
     | zero => exact absurd HA.out (by simp [qi.l0])
     | succ k1 =>
      have H := HA.out
      clear HA
      simp only [qi.l0] at H
      by_cases c13 : x17_1 < (l0_3.length : Int)
      ·rw [if_pos c13] at H
       have c13b0 : decide (x17_1 < (l0_3.length : Int)) = true := decide_eq_true c13
       clear c13
       by_cases c14 : 0 ≤ x17_1
       ·rw [if_pos c14] at H
        have c14b0 : decide (0 ≤ x17_1) = true := decide_eq_true c14
        clear c14
        by_cases c15 : x17_1 < (l0_3.length : Int)
        ·rw [if_pos c15] at H
         have c15b0 : decide (x17_1 < (l0_3.length : Int)) = true := decide_eq_true c15
         clear c15
         by_cases c16 : 0 ≤ (rd l0_3 x17_1)
         ·rw [if_pos c16] at H
          have c16b0 : decide (0 ≤ (rd l0_3 x17_1)) = true := decide_eq_true c16
          clear c16
          by_cases c17 : (rd l0_3 x17_1) < (l0_5.length : Int)
          ·rw [if_pos c17] at H
           have c17b0 : decide ((rd l0_3 x17_1) < (l0_5.length : Int)) = true := decide_eq_true c17
           clear c17
           by_cases c18 : x17_1 < ((rd_L2 l0_5 (rd l0_3 x17_1)).length : Int)
           ·rw [if_pos c18] at H
            have c18b0 : decide (x17_1 < ((rd_L2 l0_5 (rd l0_3 x17_1)).length : Int)) = true := decide_eq_true c18
            clear c18
            by_cases c19 : x17_1 < (x3_1.length : Int)
            ·rw [if_pos c19] at H
             have c19b0 : decide (x17_1 < (x3_1.length : Int)) = true := decide_eq_true c19
             clear c19
             obtain ⟨y290, hy290⟩ : ∃ y_ : List Int, y_ = (x3_1.set (x17_1 : Int).toNat (rd (rd_L2 l0_5 (rd l0_3 x17_1)) x17_1)) := ⟨_, rfl⟩
             replace H : (qi.l0 k1 y290 l0_3 (l0_3.length : Int) (wrap64 (x17_1 + 1)) a0_0 l0_1 a0_2 l0_3 l0_4 l0_5 l0_6) = some r := by first | (rw [hy290]; with_reducible exact H) | (have H2_ := (Option.bind_some _ _).symm.trans H; rw [hy290]; with_reducible exact H2_) | (have H2_ := (Option.bind_some _ _).symm.trans H; with_reducible exact H2_) | with_reducible exact H | (rw [hy290]; exact H) | exact H
             have Ny290 := za.mk hy290
             clear hy290
             have H' := za.mk H
             clear H
             have p287 : 0 ≤ (x17_1 : Int) := of_decide_eq_true (by first | (with_reducible assumption) | assumption)
             have q287 : x17_1 < (l0_3.length : Int) := of_decide_eq_true (by first | (with_reducible assumption) | assumption)
             obtain ⟨ad287, e287, hx287_0⟩ := Kd.qX HR0_3.out x17_1 p287 q287
             cases e287
             replace hx287_0 := (HB.out.cell (World.block_lt_of_cell? w _ hx287_0)).trans hx287_0
             replace p287 := eq_true p287
             replace q287 := eq_true q287
             have hcz21_0 : wr.cell? ⟨gb282, 0, none⟩ = some (.int .i64 a0_0) := (ze BK282.out 0).trans rfl
             have hcz21_1 : wr.cell? ⟨gb282, 1, none⟩ = some (.slice A0_1 l0_1.length c0_1) := (ze BK282.out 1).trans rfl
             have hcz21_2 : wr.cell? ⟨gb282, 2, none⟩ = some (.int .i64 a0_2) := (ze BK282.out 2).trans rfl
             have hcz21_3 : wr.cell? ⟨gb282, 3, none⟩ = some (.slice (some ad287) l0_3.length c0_3) := (ze BK282.out 3).trans rfl
             have hcz21_4 : wr.cell? ⟨gb282, 4, none⟩ = some (.slice A0_4 l0_4.length c0_4) := (ze BK282.out 4).trans rfl
             have hcz21_5 : wr.cell? ⟨gb282, 5, none⟩ = some (.slice A0_5 l0_5.length c0_5) := (ze BK282.out 5).trans rfl
             have hcz21_6 : wr.cell? ⟨gb282, 6, none⟩ = some (.slice A0_6 l0_6.length c0_6) := (ze BK282.out 6).trans rfl
             have hfz21_0 := zl BK282.out 0
             have hfz21_1 := zl BK282.out 1
             have hfz21_2 := zl BK282.out 2
             have hfz21_3 := zl BK282.out 3
             have hfz21_4 := zl BK282.out 4
             have hfz21_5 := zl BK282.out 5
             have hfz21_6 := zl BK282.out 6
             have p288 : 0 ≤ ((rd l0_3 x17_1) : Int) := of_decide_eq_true (by first | (with_reducible assumption) | assumption)
             have q288 : (rd l0_3 x17_1) < (l0_5.length : Int) := of_decide_eq_true (by first | (with_reducible assumption) | assumption)
             obtain ⟨ad288, A288_0, c288_0, e288, hx288_0, hl288_0, hi288_0⟩ := at_L2 HR0_5.out (rd l0_3 x17_1) p288 q288
             cases e288
             replace hx288_0 := (HB.out.cell (World.block_lt_of_cell? w _ hx288_0)).trans hx288_0
             have HR288_0 := za.mk hi288_0
             have HC288_0 := za.mk hl288_0
             clear hi288_0 hl288_0
             replace p288 := eq_true p288
             replace q288 := eq_true q288
             have p289 : 0 ≤ (x17_1 : Int) := of_decide_eq_true (by first | (with_reducible assumption) | assumption)
             have q289 : x17_1 < ((rd_L2 l0_5 (rd l0_3 x17_1)).length : Int) := of_decide_eq_true (by first | (with_reducible assumption) | assumption)
             obtain ⟨ad289, e289, hx289_0⟩ := Kd.qX HR288_0.out x17_1 p289 q289
             cases e289
             replace hx289_0 := (HB.out.cell (World.block_lt_of_cell? w _ hx289_0)).trans hx289_0
             replace p289 := eq_true p289
             replace q289 := eq_true q289
             have p20 : 0 ≤ (x17_1 : Int) := of_decide_eq_true (by first | (with_reducible assumption) | assumption)
             have q20 : (x17_1 : Int) < ((x3_1.length : Int) : Int) := of_decide_eq_true (by first | (with_reducible assumption) | assumption)
             obtain ⟨go20, co20, eo20, gb20, gl20, cl20, HG20⟩ := Kd.R_form HO_3.out (by omega)
             (first | cases eo20 | (injection eo20 with ea_ en_ ec_; (first | subst ea_ | (injection ea_ with ea_; subst ea_)); subst ec_; clear en_))
             have GB20 := za.mk gb20
             have GG20 := za.mk HG20
             clear gb20 gl20 HG20
             obtain ⟨hx20_0, hf20_0⟩ := Kd.R_celln 0 HO_3.out (x17_1 : Int) p20 q20
             replace p20 := eq_true p20
             replace q20 := eq_true q20
             have HP22 := Kd.R_putg HO_3.out (x17_1 : Int) (rd (rd_L2 l0_5 (rd l0_3 x17_1)) x17_1)
             go_wp2_with (first | ((with_reducible refine gate_store (t := 3) (p := 32) rfl ?_); refine store_event (t := 3) (p := 32) (v := ?vo_w23) (w1 := (wr.setCell ⟨go20, (x17_1 : Int).toNat, none⟩ (.int .i64 (rd (rd_L2 l0_5 (rd l0_3 x17_1)) x17_1)))) ?hg ?ho ?hn ?hr ?_; (case ho => rfl); (case hg => rfl); (case hn => rfl); (case hr => first | (go_simp; done) | (go_simp; rfl)); intro w23 hw; have hg : wr.grownBy w23 (some go20) := (by rw [hw]; exact HP22.2); have hp_ : Kd.R (Kd.int .i64) 3 w23 w.heap.size (fun _ => True) (.slice (some ⟨go20, 0, none⟩) x3_1.length co20) y290 := (by rw [hw, Ny290.out]; exact HP22.1); clear HP22; have n0_ := za.mk (hp_); have n1_ := za.mk (Zp (g := gb282) (o := .cells #[.int .i64 a0_0, .slice A0_1 l0_1.length c0_1, .int .i64 a0_2, .slice (some ad287) l0_3.length c0_3, .slice A0_4 l0_4.length c0_4, .slice (some ad288) l0_5.length c0_5, .slice A0_6 l0_6.length c0_6] 37 (0, 0)) (by (with_reducible repeat (first | refine zk ?_ _ | refine zm ?_ | refine zh ?_ _)); exact BK282.out) hg (Kd.R_ne HO_3.out BK282.out (by decide))); have n2_ := za.mk ((by rw [hw]; exact zi (HB.out) GB20.out : Below w.heap.size w w23)); clear HO_3; clear BK282; clear HB; have HO_3 := n0_; have BK282 := n1_; have HB := n2_; clear n0_ n1_ n2_; clear hg hw hp_))
             go_roundg k1
             case measure => have := HK1.out; omega
             case rel => exact ⟨(y290), (wrap64 (x17_1 + 1)), (by first | rfl | (simp; done) | (simp [*]; done)), H', ⟨by have := HK1.out; omega⟩, ⟨by (with_reducible repeat (first | apply Kd.zn | apply Kd.zq | apply Kd.zu)); exact HO_3.out⟩, ⟨by (with_reducible repeat (first | refine zk ?_ _ | refine zm ?_ | refine zh ?_ _)); exact BK282.out⟩, ⟨by repeat (first | (with_reducible first | exact HB.out | apply zf | apply zb | apply zg | refine zi ?_ GE282.out) | exact HB.out)⟩⟩
            ·rw [if_neg c19] at H
             exact absurd H (by simp)
           ·rw [if_neg c18] at H
            exact absurd H (by simp)
          ·rw [if_neg c17] at H
           exact absurd H (by simp)
         ·rw [if_neg c16] at H
          exact absurd H (by simp)
        ·rw [if_neg c15] at H
         exact absurd H (by simp)
       ·rw [if_neg c14] at H
        exact absurd H (by simp)
      ·rw [if_neg c13] at H
       have c13b0 : decide (x17_1 < (l0_3.length : Int)) = false := decide_eq_false c13
       clear c13
       obtain rfl := Option.some.inj H
       go_wp2
       go_ret
       exact ⟨_, by first | rfl | (simp [zQ, zP] <;> rfl) | (simp [*, zQ, zP] <;> rfl), by (with_reducible repeat (first | apply Kd.zn | apply Kd.zq | apply Kd.zu)); exact HO_3.out, by repeat (first | (with_reducible first | exact HB.out | apply zf | apply zb | apply zg | refine zi ?_ GE282.out) | exact HB.out)⟩
   ·rw [if_neg c5] at H
    exact absurd H (by simp)
  ·rw [if_neg c4] at H
   exact absurd H (by simp)
 ·replace c3 := Bool.eq_false_iff.mpr c3
  subst c3
  have H1 : (some ([] : List Int)) = some r := by rw [if_neg (show ¬ (false = true) by decide)] at H; exact H
  clear H
  have H := H1
  clear H1
  obtain rfl := Option.some.inj H
  go_enter Try.func26, Try.ntmps26
  go_wp2_with (first | ((with_reducible refine qJ (N := 1) rfl ?_); refine qI ?hg (N := 1) ?hd (cs := #[.int .i64 a0_0, .slice A0_1 l0_1.length c0_1, .int .i64 a0_2, .slice A0_3 l0_3.length c0_3, .slice A0_4 l0_4.length c0_4, .slice A0_5 l0_5.length c0_5, .slice A0_6 l0_6.length c0_6]) (t := 37) ?hr ?_; (case hd => rfl); (case hg => rfl); (case hr => first | (go_simp; done) | (go_simp; rfl)); intro gb282 hg w24 hbox hb; have n0_ := za.mk (zT (by repeat (first | (with_reducible first | exact HB.out | apply zf | apply zb | apply zg) | exact HB.out)) hb); have n1_ := za.mk (hbox); have n2_ := za.mk ((by rw [hg]; exact (zB (by repeat (first | (with_reducible first | exact HB.out | apply zf | apply zb | apply zg) | exact HB.out))) : w.heap.size ≤ gb282)); have n3_ := za.mk ((by rw [hg]; exact (zB (by repeat (first | (with_reducible first | exact HB.out | apply zf | apply zb | apply zg) | exact HB.out))) : w.heap.size ≤ gb282)); clear HB; have HB := n0_; have BK282 := n1_; have GW282 := n2_; have GE282 := n3_; clear n0_ n1_ n2_ n3_; clear hb hbox hg; have hcz25_0 : w24.cell? ⟨gb282, 0, none⟩ = some (.int .i64 a0_0) := (ze BK282.out 0).trans rfl; have hcz25_1 : w24.cell? ⟨gb282, 1, none⟩ = some (.slice A0_1 l0_1.length c0_1) := (ze BK282.out 1).trans rfl; have hcz25_2 : w24.cell? ⟨gb282, 2, none⟩ = some (.int .i64 a0_2) := (ze BK282.out 2).trans rfl; have hcz25_3 : w24.cell? ⟨gb282, 3, none⟩ = some (.slice A0_3 l0_3.length c0_3) := (ze BK282.out 3).trans rfl; have hcz25_4 : w24.cell? ⟨gb282, 4, none⟩ = some (.slice A0_4 l0_4.length c0_4) := (ze BK282.out 4).trans rfl; have hcz25_5 : w24.cell? ⟨gb282, 5, none⟩ = some (.slice A0_5 l0_5.length c0_5) := (ze BK282.out 5).trans rfl; have hcz25_6 : w24.cell? ⟨gb282, 6, none⟩ = some (.slice A0_6 l0_6.length c0_6) := (ze BK282.out 6).trans rfl; have hfz25_0 := zl BK282.out 0; have hfz25_1 := zl BK282.out 1; have hfz25_2 := zl BK282.out 2; have hfz25_3 := zl BK282.out 3; have hfz25_4 := zl BK282.out 4; have hfz25_5 := zl BK282.out 5; have hfz25_6 := zl BK282.out 6) | ((with_reducible refine qc (f := 28) rfl ?_); refine qU (some 7) rfl rfl Try.func28 (by kernel_rfl) rfl #[.agg #[.int .i64 a0_0, .slice A0_1 l0_1.length c0_1, .int .i64 a0_2, .slice A0_3 l0_3.length c0_3, .slice A0_4 l0_4.length c0_4, .slice A0_5 l0_5.length c0_5, .slice A0_6 l0_6.length c0_6]] rfl (by (try simp only [List.map_toArray, List.map_cons, List.map_nil]); first | done | rfl | (simp only [List.length_drop, List.length_take]; rfl)) ?_; (with_reducible refine (qP.calls a0_0 _ _ l0_1 a0_2 _ _ l0_3 _ _ l0_4 _ _ l0_5 _ _ l0_6 false _ ?side1 ?side2 ?side3 ?side4 ?side5 ?side6 ?side7 ?side8 ?side9 ?side10 A2.out).mono ?_); (case side1 => repeat (first | exact (Kd.qB HR0_1.out HB.out) | (with_reducible refine Kd.qA ?_ _) | (with_reducible refine Kd.qz ?_ _) | (with_reducible refine Kd.qF ?_))); (case side2 => exact HC0_1.out); (case side3 => repeat (first | exact (Kd.qB HR0_3.out HB.out) | (with_reducible refine Kd.qA ?_ _) | (with_reducible refine Kd.qz ?_ _) | (with_reducible refine Kd.qF ?_))); (case side4 => exact HC0_3.out); (case side5 => repeat (first | exact (Kd.qB HR0_4.out HB.out) | (with_reducible refine Kd.qA ?_ _) | (with_reducible refine Kd.qz ?_ _) | (with_reducible refine Kd.qF ?_))); (case side6 => exact HC0_4.out); (case side7 => repeat (first | exact (Kd.qB HR0_5.out HB.out) | (with_reducible refine Kd.qA ?_ _) | (with_reducible refine Kd.qz ?_ _) | (with_reducible refine Kd.qF ?_))); (case side8 => exact HC0_5.out); (case side9 => repeat (first | exact (Kd.qB HR0_6.out HB.out) | (with_reducible refine Kd.qA ?_ _) | (with_reducible refine Kd.qz ?_ _) | (with_reducible refine Kd.qF ?_))); (case side10 => exact HC0_6.out); rintro e w26 ⟨rfl, hb⟩; refine ⟨_, rfl, ?_⟩; have n0_ := za.mk (zW (g := gb282) (o := .cells #[.int .i64 a0_0, .slice A0_1 l0_1.length c0_1, .int .i64 a0_2, .slice A0_3 l0_3.length c0_3, .slice A0_4 l0_4.length c0_4, .slice A0_5 l0_5.length c0_5, .slice A0_6 l0_6.length c0_6] 37 (0, 0)) (by (with_reducible repeat (first | refine zk ?_ _ | refine zm ?_ | refine zh ?_ _)); exact BK282.out) hb); have n1_ := za.mk (zT (by repeat (first | (with_reducible first | exact HB.out | apply zf | apply zb | apply zg | refine zi ?_ GE282.out) | exact HB.out)) hb); clear BK282; clear HB; have BK282 := n0_; have HB := n1_; clear n0_ n1_; (try clear hb); (try clear hb2); (try clear hk); (try clear hi)))
  go_ret
  exact ⟨_, by first | rfl | (simp [zQ, zP] <;> rfl) | (simp [*, zQ, zP] <;> rfl), by first | exact Kd.ZO _ _ _ _ _ | exact Kd.N_nil _ _ _ _ _ | exact Kd.V_nil _ _ _ _ _ | exact Kd.Q_nil _ _ _ _ _ | exact Kd.S_nil _ _ _ _ _, by repeat (first | (with_reducible first | exact HB.out | apply zf | apply zb | apply zg | refine zi ?_ GE282.out) | exact HB.out)⟩
def zU.f (k : Nat)  : Option (Bool) := (some (([(⟨0, 1⟩ : S66), (⟨1, 2⟩ : S66)] : List (S66)) : List (S66))).bind fun y291 => ((qE.f 3 y291 1 (([0, 0, 0] : List Int)) ([] : List Int)).bind fun bt298 => ((qE.f 3 y291 2 (([0, 1, 0] : List Int)) ([] : List Int)).bind fun bt320 => (if bt298.2.2.2.2.2.2.2 = 0 then ((qi.f k bt298.1 bt298.2.1 bt298.2.2.1 bt298.2.2.2.1 bt298.2.2.2.2.1 bt298.2.2.2.2.2.1 bt298.2.2.2.2.2.2.1).bind fun t339 => ((zM.f k t339 (([1, 1, 1] : List Int))).bind fun t345 => (if t345 = 0 then (if bt320.2.2.2.2.2.2.2 = 0 then ((qW.f k bt320.1 bt320.2.1 bt320.2.2.1 bt320.2.2.2.1 bt320.2.2.2.2.1 bt320.2.2.2.2.2.1 bt320.2.2.2.2.2.2.1).bind fun t346 => (if (t346.length : Int) = 2 then ((qP.f bt320.1 bt320.2.1 bt320.2.2.1 bt320.2.2.2.1 bt320.2.2.2.2.1 bt320.2.2.2.2.2.1 bt320.2.2.2.2.2.2.1).bind fun t349 => (some t349)) else (some false))) else (some false)) else (some false)))) else (some false))))
theorem zU.mono : ∀ k, LeO (zU.f k ) (zU.f (k + 1) ) := by
 intro  k
 unfold zU.f
 repeat' first
  | (with_reducible exact zM.mono _ _ _)
  | (with_reducible exact qi.mono _ _ _ _ _ _ _ _)
  | (with_reducible exact qW.mono _ _ _ _ _ _ _ _)
  | (with_reducible exact LeO.refl _)
  | (with_reducible exact LeO.none _)
  | (with_reducible refine LeO.ite ?_ ?_)
  | (with_reducible refine LeO.bind ?_ (fun _ => ?_))
  | exact zM.mono _ _ _
  | exact qi.mono _ _ _ _ _ _ _ _
  | exact qW.mono _ _ _ _ _ _ _ _
  | exact LeO.none _
  | refine LeO.ite ?_ ?_
  | refine LeO.bind ?_ (fun _ => ?_)
end Go.Proofs.Ytebehdjjkpffjaa.QPlans
end
section
namespace Go.Proofs.Ytebehdjjkpffjaa.QPlans
open Go.RowKit Go.Proofs.YtebehdjjkpffjaaW.PrintWords Go.Proofs.YtebehdjjkpffjaaW.PrintLast Go.Proofs.YtebehdjjkpffjaaW.PrintMore
def total (b : List (List S56)) : Nat := (b.map List.length).sum
theorem total_set (b : List (List S56)) : ∀ (i : Nat) (y : List S56), i < b.length → total (b.set i y) + (b.getD i []).length = total b + y.length := by
 induction b with
 | nil => intro i y h; simp at h
 | cons x r ih =>
  intro i y h
  cases i with
  | zero => simp [total]; omega
  | succ i =>
   have := ih i y (by simpa using h)
   simp only [total, List.set_cons_succ, List.map_cons, List.sum_cons, List.getD_cons_succ] at this ⊢
   omega
theorem total_put1 (b : List (List S56)) (m : S56) (x : Int) (h0 : 0 ≤ x) (h1 : x < b.length) : total (put1 b m x) = total b + 1 := by
 have := total_set b x.toNat (b.getD x.toNat [] ++ [m]) (by omega)
 unfold put1
 rw [List.length_append, List.length_singleton] at this
 omega
theorem total_puts (m : S56) (l : List Int) (b : List (List S56)) (h : ∀ x ∈ l, 0 ≤ x ∧ x < b.length) : total (l.foldl (fun b x => put1 b m x) b) = total b + l.length := by
 induction l generalizing b with
 | nil => rfl
 | cons x r ih =>
  have hx := h x List.mem_cons_self
  rw [List.foldl_cons, ih _ (fun y hy => by rw [put1_length]; exact h y (List.mem_cons_of_mem _ hy)), total_put1 _ _ _ hx.1 hx.2, List.length_cons]
  omega
theorem total_told {near : List (List Int)} {owner : List Int} {me : Int} {ks : List Int} (n : Nat) (b : List (List S56)) (h : ∀ v < n, ∀ x ∈ Zh owner (near.getD v []) v, 0 ≤ x ∧ x < b.length) :
  total (told near owner me ks (fun _ => true) n b) = total b + ((List.range n).map fun (v : Nat) => if rd owner v = me then (Zh owner (near.getD v []) v).length else 0).sum := by
 induction n with
 | zero => rfl
 | succ n ih =>
  rw [told_succ, List.range_succ, List.map_append, List.sum_append]
  have ih' := ih (fun v hv => h v (by omega))
  unfold tell1
  by_cases hm : rd owner n = me
  ·rw [if_neg (by simp [hm]), total_puts _ _ _ (by rw [told_length]; exact h n (by omega)), ih']
   simp only [List.map_cons, List.map_nil, List.sum_cons, List.sum_nil, if_pos hm]
   omega
  ·rw [if_pos (by simp [hm]), ih']
   simp only [List.map_cons, List.map_nil, List.sum_cons, List.sum_nil, if_neg hm]
   omega
end Go.Proofs.Ytebehdjjkpffjaa.QPlans
end
section
namespace Go.Proofs.Ytebehdjjkpffjaa.QPlans
open Go.RowKit Go.Proofs.YtebehdjjkpffjaaW.PrintWords Go.Proofs.YtebehdjjkpffjaaW.PrintLast Go.Proofs.YtebehdjjkpffjaaW.PrintMore
theorem planErr_zero {wk : Int} {owner heavy : List Int} {n : Int} (h1 : 1 ≤ wk) (h2 : wk ≤ 8) (h3 : (owner.length : Int) = n) (h4 : ∀ x ∈ owner, 0 ≤ x ∧ x < wk) (h5 : ∀ x ∈ heavy, 0 ≤ x ∧ x < n) (h6 : heavy.Pairwise (· < ·)) : ZF wk owner heavy n = 0 := by
 have hs : setOk heavy n = true := by
  unfold setOk
  rw [decide_eq_true_eq]
  intro i h
  have := h5 _ (List.getElem_mem h)
  refine ⟨this.1, this.2, fun h0 => ?_⟩
  exact List.pairwise_iff_getElem.1 h6 (i - 1) i (by omega) h (by omega)
 unfold ZF
 rw [if_neg (by unfold workersOk; simp; omega), if_neg (by simp [h3, hs]), if_neg]
 simp only [List.any_eq_true, not_exists, not_and]
 intro x hx
 have := h4 x hx
 unfold Qd
 simp; omega
end Go.Proofs.Ytebehdjjkpffjaa.QPlans
end
section
namespace Go.Proofs.Ytebehdjjkpffjaa.QPlans
theorem rising_eq : ∀ (a b : List Int), a.Pairwise (· < ·) → b.Pairwise (· < ·) → (∀ y, y ∈ a ↔ y ∈ b) → a = b
 | [], [], _, _, _ => rfl
 | [], x :: r, _, _, h => by have := (h x).2 List.mem_cons_self; cases this
 | x :: r, [], _, _, h => by have := (h x).1 List.mem_cons_self; cases this
 | x :: r, y :: s, ha, hb, h => by
  rw [List.pairwise_cons] at ha hb
  have h1 := (h x).1 List.mem_cons_self
  have h2 := (h y).2 List.mem_cons_self
  rw [List.mem_cons] at h1 h2
  have hxy : x = y := by
   rcases h1 with h1 | h1
   ·exact h1
   ·rcases h2 with h2 | h2
    ·exact h2.symm
    ·have := hb.1 x h1; have := ha.1 y h2; omega
  subst hxy
  rw [rising_eq r s ha.2 hb.2 (fun z => ?_)]
  constructor
  ·intro hz
   have := (h z).1 (List.mem_cons_of_mem _ hz)
   rw [List.mem_cons] at this
   rcases this with e | e
   ·have := ha.1 z hz; omega
   ·exact e
  ·intro hz
   have := (h z).2 (List.mem_cons_of_mem _ hz)
   rw [List.mem_cons] at this
   rcases this with e | e
   ·have := hb.1 z hz; omega
   ·exact e
end Go.Proofs.Ytebehdjjkpffjaa.QPlans
end
section
namespace Go.Proofs.Ytebehdjjkpffjaa.QPlans
open Go
theorem compact_rising (zs : List Int) (hs : zs.Pairwise (· ≤ ·)) : ∀ m, m ≤ zs.length → (Lib.compactUpTo zs.toArray m).Pairwise (· < ·) ∧ (∀ y, y ∈ Lib.compactUpTo zs.toArray m ↔ y ∈ zs.take m) := by
 intro m
 induction m with
 | zero => intro _; simp [Lib.compactUpTo]
 | succ m ih =>
  intro hm
  have hml : m < zs.length := by omega
  obtain ⟨h1, h2⟩ := ih (by omega)
  have em : zs.toArray[m]! = zs[m] := by simp [hml]
  rw [Lib.compactUpTo_succ, List.take_succ_eq_append_getElem hml, em]
  by_cases hk : Lib.keeps zs.toArray m = true
  ·rw [if_pos hk]
   refine ⟨?_, fun y => by rw [List.mem_append, List.mem_append, h2]⟩
   rw [List.pairwise_append]
   refine ⟨h1, List.pairwise_singleton _ _, fun a ha b hb => ?_⟩
   rw [List.mem_singleton] at hb
   subst hb
   rw [h2] at ha
   obtain ⟨j, hj, rfl⟩ := List.mem_iff_getElem.1 ha
   rw [List.length_take] at hj
   rw [List.getElem_take]
   have hm1 : zs.toArray[m - 1]! = zs[m - 1]'(by omega) := by simp [show m - 1 < zs.length by omega]
   have hne : zs[m] ≠ zs[m - 1]'(by omega) := by
    intro e
    have : Lib.keeps zs.toArray m = false := Lib.keeps_neg (by omega) (by rw [em, hm1]; exact e)
    rw [this] at hk; cases hk
   have hle : zs[m - 1]'(by omega) ≤ zs[m] := List.pairwise_iff_getElem.1 hs (m - 1) m (by omega) hml (by omega)
   have hjm : zs[j]'(by omega) ≤ zs[m - 1]'(by omega) := by
    by_cases e : j = m - 1
    ·subst e; omega
    ·exact List.pairwise_iff_getElem.1 hs j (m - 1) (by omega) (by omega) (by omega)
   omega
  ·rw [if_neg hk]
   refine ⟨by simpa using h1, fun y => ?_⟩
   rw [List.append_nil, List.mem_append, h2, List.mem_singleton]
   refine ⟨.inl, fun h => h.elim id (fun e => ?_)⟩
   have hm0 : 0 < m := by
    rcases Nat.eq_zero_or_pos m with h | h
    ·subst h; exact absurd (by simp [Lib.keeps]) hk
    ·exact h
   have hm1 : zs.toArray[m - 1]! = zs[m - 1]'(by omega) := by simp [show m - 1 < zs.length by omega]
   have heq : zs[m] = zs[m - 1]'(by omega) := by
    by_cases e : zs[m] = zs[m - 1]'(by omega)
    ·exact e
    ·exact absurd (Lib.keeps_pos (by rw [em, hm1]; exact e)) hk
   rw [e, heq]
   exact List.mem_iff_getElem.2 ⟨m - 1, by rw [List.length_take]; omega, by rw [List.getElem_take]⟩
end Go.Proofs.Ytebehdjjkpffjaa.QPlans
end
section
namespace Go.Proofs.Ytebehdjjkpffjaa.QPlans
open Go.RowKit Go.Proofs.YtebehdjjkpffjaaW.PrintWords
theorem srt_le (l : List Int) : (srt l).Pairwise (· ≤ ·) := by
 have h := List.pairwise_mergeSort (le := fun x y : Int => decide (x ≤ y)) (fun a b c h1 h2 => by simp only [decide_eq_true_eq] at *; omega) (fun a b => by simp only [Bool.or_eq_true, decide_eq_true_eq]; omega) l
 exact h.imp (fun h => by simpa using h)
theorem owners_rising (owner nv : List Int) (v : Int) : (Zh owner nv v).Pairwise (· < ·) ∧ ∀ y, y ∈ Zh owner nv v ↔ (∃ u ∈ nv, rd owner u = y) ∧ y ≠ rd owner v := by
 have h := compact_rising (srt (Zt owner nv v)) (srt_le _) _ (Nat.le_refl _)
 refine ⟨h.1, fun y => ?_⟩
 have h2 := h.2 y
 rw [List.take_length] at h2
 show y ∈ Lib.compact _ ↔ _
 unfold Lib.compact
 rw [h2]
 unfold srt
 rw [List.mem_mergeSort]
 unfold Zt
 rw [List.mem_filter, List.mem_map]
 simp
end Go.Proofs.Ytebehdjjkpffjaa.QPlans
end
section
namespace Go.Proofs.Ytebehdjjkpffjaa.QPlans
open Go.RowKit Go.Proofs.YtebehdjjkpffjaaW.PrintWords Go.Proofs.YtebehdjjkpffjaaW.PrintLast Go.Proofs.YtebehdjjkpffjaaW.PrintMore
def ins1 (x : Int) : List Int → List Int
 | [] => [x]
 | y :: r => if x ≤ y then x :: y :: r else y :: ins1 x r
def isrt : List Int → List Int
 | [] => []
 | x :: r => ins1 x (isrt r)
theorem ins1_perm (x : Int) : ∀ l, (ins1 x l).Perm (x :: l)
 | [] => List.Perm.refl _
 | y :: r => by
  unfold ins1
  split
  ·exact List.Perm.refl _
  ·exact ((ins1_perm x r).cons y).trans (List.Perm.swap _ _ _)
theorem isrt_perm : ∀ l, (isrt l).Perm l
 | [] => List.Perm.refl _
 | x :: r => (ins1_perm x _).trans ((isrt_perm r).cons x)
theorem ins1_le (x : Int) : ∀ l : List Int, l.Pairwise (· ≤ ·) → (ins1 x l).Pairwise (· ≤ ·)
 | [], _ => List.pairwise_singleton _ _
 | y :: r, h => by
  unfold ins1
  rw [List.pairwise_cons] at h
  split
  ·rename_i hxy
   rw [List.pairwise_cons, List.pairwise_cons]
   exact ⟨fun z hz => by rcases List.mem_cons.1 hz with rfl | hz; exact hxy; have := h.1 z hz; omega, h⟩
  ·rename_i hxy
   rw [List.pairwise_cons]
   refine ⟨fun z hz => ?_, ins1_le x r h.2⟩
   rw [(ins1_perm x r).mem_iff] at hz
   rcases List.mem_cons.1 hz with rfl | hz
   ·omega
   ·exact h.1 z hz
theorem isrt_le : ∀ l, (isrt l).Pairwise (· ≤ ·)
 | [] => List.Pairwise.nil
 | x :: r => ins1_le x _ (isrt_le r)
theorem sorted_eq : ∀ (a b : List Int), a.Pairwise (· ≤ ·) → b.Pairwise (· ≤ ·) → a.Perm b → a = b
 | [], b, _, _, h => (List.Perm.nil_eq h)
 | x :: r, [], _, _, h => by have := h.length_eq; simp at this
 | x :: r, y :: s, ha, hb, h => by
  rw [List.pairwise_cons] at ha hb
  have h1 : x ∈ y :: s := h.mem_iff.1 List.mem_cons_self
  have h2 : y ∈ x :: r := h.mem_iff.2 List.mem_cons_self
  have hxy : x = y := by
   rcases List.mem_cons.1 h1 with e | h1
   ·exact e
   ·rcases List.mem_cons.1 h2 with e | h2
    ·exact e.symm
    ·have := hb.1 x h1; have := ha.1 y h2; omega
  subst hxy
  rw [sorted_eq r s ha.2 hb.2 h.cons_inv]
theorem srt_eq (l : List Int) : srt l = isrt l := sorted_eq _ _ (srt_le l) (isrt_le l) ((List.mergeSort_perm l _).trans (isrt_perm l).symm)
def hix' (l : List Int) : Nat := hscan (isrt l) (isrt l).length 0
theorem hix_eq : hix = hix' := by funext l; unfold hix hix'; rw [srt_eq]
def ownersOf' (owner nv : List Int) (v : Int) : List Int := Lib.compact (isrt (Zt owner nv v))
theorem ownersOf_eq : Zh = ownersOf' := by funext a b c; unfold Zh ownersOf'; rw [srt_eq]
def step1' (near : List (List Int)) (owner : List Int) (own : Int) (ks : List Int) (v : Nat) : List Int :=
 if owner.getD v 0 = own ∧ (hix' (ZN (near.getD v []) ks) : Int) < ks.getD v 0 then ks.set v (hix' (ZN (near.getD v []) ks)) else ks
theorem step1_eq : step1 = step1' := by funext a b c d e; unfold step1 step1'; rw [hix_eq]
def pass' (near : List (List Int)) (owner : List Int) (own : Int) (ks : List Int) : List Int := (List.range near.length).foldl (step1' near owner own) ks
theorem pass_eq : pass = pass' := by funext a b c d; unfold pass pass' Qc; rw [step1_eq]
def settleN' (near : List (List Int)) (owner : List Int) (own : Int) : Nat → List Int → List Int
 | 0, ks => ks
 | n + 1, ks => if pass' near owner own ks = ks then ks else settleN' near owner own n (pass' near owner own ks)
theorem settleN_eq (near : List (List Int)) (owner : List Int) (own : Int) : ∀ n ks, settleN near owner own n ks = settleN' near owner own n ks
 | 0, _ => rfl
 | n + 1, ks => by simp only [settleN, settleN', pass_eq, settleN_eq near owner own n]
def kOf' (near : List (List Int)) (owner : List Int) (N : Nat) (i : Int) : List Int := settleN' near owner i (mass (k0At near owner N i N) + 1) (k0At near owner N i N)
theorem kOf_eq : kOf = kOf' := by funext a b c d; unfold kOf kOf' settled; rw [settleN_eq]
def tell1' (near : List (List Int)) (owner : List Int) (me : Int) (ks : List Int) (p : Nat → Bool) (b : List (List S56)) (v : Nat) : List (List S56) :=
 if rd owner v != me || !p v then b else (ownersOf' owner (near.getD v []) v).foldl (fun b x => put1 b ⟨v, rd ks v, false⟩ x) b
theorem tell1_eq : tell1 = tell1' := by funext a b c d e f g; unfold tell1 tell1'; rw [ownersOf_eq]
def bOf' (near : List (List Int)) (owner : List Int) (N W : Nat) (i : Int) : List (List S56) := (List.range N).foldl (tell1' near owner i (kOf' near owner N i) (fun _ => true)) (List.replicate W [])
theorem bOf_eq : bOf = bOf' := by funext a b c d e; unfold bOf bOf' told; rw [tell1_eq, kOf_eq]
set_option maxRecDepth 100000 in
theorem start1 : qE.f 3 [(⟨0, 1⟩ : S66), (⟨1, 2⟩ : S66)] 1 [0, 0, 0] [] = some (3, [⟨0, 1⟩, ⟨1, 2⟩], 1, [0, 0, 0], [], [[1, 1, 1]], [[[]]], 0) := by
 unfold qE.f
 rw [kOf_eq, bOf_eq]
 kernel_rfl
set_option maxRecDepth 100000 in
theorem start2 : qE.f 3 [(⟨0, 1⟩ : S66), (⟨1, 2⟩ : S66)] 2 [0, 1, 0] [] = some (3, [⟨0, 1⟩, ⟨1, 2⟩], 2, [0, 1, 0], [], [[1, 3, 1], [3, 2, 3]], [[[], [⟨0, 1, false⟩, ⟨2, 1, false⟩]], [[⟨1, 2, false⟩], []]], 0) := by
 unfold qE.f
 rw [kOf_eq, bOf_eq]
 kernel_rfl
theorem awake_ev : Ev (fun k => zU.f k) true := by
 refine Ev.of (g := fun k => zU.f k) (k := 100) (fun k => zU.mono k) ?_
 unfold zU.f
 rw [Option.bind_some, start1, start2]
 simp only [Option.bind_some]
 decide +kernel
theorem awake_true {k : Nat} {r : Bool} (h : zU.f k = some r) : r = true := by
 obtain ⟨K, hK⟩ := awake_ev
 have h1 := at_rounds (g := fun k => zU.f k) (fun k => zU.mono k) (Nat.le_max_left k K) h
 exact Option.some.inj (h1.symm.trans (hK _ (Nat.le_max_right k K)))
end Go.Proofs.Ytebehdjjkpffjaa.QPlans
end
section
namespace Go.Proofs.Ytebehdjjkpffjaa.QPlans
open Go.RowKit Go.Proofs.YtebehdjjkpffjaaW.PrintWords Go.Proofs.YtebehdjjkpffjaaW.PrintLast Go.Proofs.YtebehdjjkpffjaaW.PrintMore
set_option maxHeartbeats 8000000 in
set_option maxRecDepth 100000 in
theorem zU.calls (k : Nat)  (r : Bool) (w : World) (h : zU.f k  = some r) :
  Calls Try.prog 9 #[] w fun e w' => e = .returned (.bool r) ∧ Below w.heap.size w w' := by
 have hu66 := Try.underlying66
 have hu29 := Try.underlying29
 have hu32 := Try.underlying32
 have hu37 := Try.underlying37
 have HB := za.mk (Below.refl w.heap.size w)
 have H : ((some (([(⟨0, 1⟩ : S66), (⟨1, 2⟩ : S66)] : List (S66)) : List (S66))).bind fun y291 => ((qE.f 3 y291 1 (([0, 0, 0] : List Int)) ([] : List Int)).bind fun bt298 => ((qE.f 3 y291 2 (([0, 1, 0] : List Int)) ([] : List Int)).bind fun bt320 => (if bt298.2.2.2.2.2.2.2 = 0 then ((qi.f k bt298.1 bt298.2.1 bt298.2.2.1 bt298.2.2.2.1 bt298.2.2.2.2.1 bt298.2.2.2.2.2.1 bt298.2.2.2.2.2.2.1).bind fun t339 => ((zM.f k t339 (([1, 1, 1] : List Int))).bind fun t345 => (if t345 = 0 then (if bt320.2.2.2.2.2.2.2 = 0 then ((qW.f k bt320.1 bt320.2.1 bt320.2.2.1 bt320.2.2.2.1 bt320.2.2.2.2.1 bt320.2.2.2.2.2.1 bt320.2.2.2.2.2.2.1).bind fun t346 => (if (t346.length : Int) = 2 then ((qP.f bt320.1 bt320.2.1 bt320.2.2.1 bt320.2.2.2.1 bt320.2.2.2.2.1 bt320.2.2.2.2.2.1 bt320.2.2.2.2.2.2.1).bind fun t349 => (some t349)) else (some false))) else (some false)) else (some false)))) else (some false))))) = some r := h
 have HR := za.mk (awake_true h)
 clear h
 obtain ⟨y291, hy291⟩ : ∃ y_ : List (S66), y_ = (([(⟨0, 1⟩ : S66), (⟨1, 2⟩ : S66)] : List (S66))) := ⟨_, rfl⟩
 replace H : ((qE.f 3 y291 1 (([0, 0, 0] : List Int)) ([] : List Int)).bind fun bt298 => ((qE.f 3 y291 2 (([0, 1, 0] : List Int)) ([] : List Int)).bind fun bt320 => (if bt298.2.2.2.2.2.2.2 = 0 then ((qi.f k bt298.1 bt298.2.1 bt298.2.2.1 bt298.2.2.2.1 bt298.2.2.2.2.1 bt298.2.2.2.2.2.1 bt298.2.2.2.2.2.2.1).bind fun t339 => ((zM.f k t339 (([1, 1, 1] : List Int))).bind fun t345 => (if t345 = 0 then (if bt320.2.2.2.2.2.2.2 = 0 then ((qW.f k bt320.1 bt320.2.1 bt320.2.2.1 bt320.2.2.2.1 bt320.2.2.2.2.1 bt320.2.2.2.2.2.1 bt320.2.2.2.2.2.2.1).bind fun t346 => (if (t346.length : Int) = 2 then ((qP.f bt320.1 bt320.2.1 bt320.2.2.1 bt320.2.2.2.1 bt320.2.2.2.2.1 bt320.2.2.2.2.2.1 bt320.2.2.2.2.2.2.1).bind fun t349 => (some t349)) else (some false))) else (some false)) else (some false)))) else (some false)))) = some r := by first | (rw [hy291]; with_reducible exact H) | (have H2_ := (Option.bind_some _ _).symm.trans H; rw [hy291]; with_reducible exact H2_) | (have H2_ := (Option.bind_some _ _).symm.trans H; with_reducible exact H2_) | with_reducible exact H | (rw [hy291]; exact H) | exact H
 have Ny291 := za.mk hy291
 clear hy291
 obtain ⟨y295, hy295⟩ : ∃ y_ : List Int, y_ = (([0, 0, 0] : List Int)) := ⟨_, rfl⟩
 replace H : ((qE.f 3 y291 1 y295 ([] : List Int)).bind fun bt298 => ((qE.f 3 y291 2 (([0, 1, 0] : List Int)) ([] : List Int)).bind fun bt320 => (if bt298.2.2.2.2.2.2.2 = 0 then ((qi.f k bt298.1 bt298.2.1 bt298.2.2.1 bt298.2.2.2.1 bt298.2.2.2.2.1 bt298.2.2.2.2.2.1 bt298.2.2.2.2.2.2.1).bind fun t339 => ((zM.f k t339 (([1, 1, 1] : List Int))).bind fun t345 => (if t345 = 0 then (if bt320.2.2.2.2.2.2.2 = 0 then ((qW.f k bt320.1 bt320.2.1 bt320.2.2.1 bt320.2.2.2.1 bt320.2.2.2.2.1 bt320.2.2.2.2.2.1 bt320.2.2.2.2.2.2.1).bind fun t346 => (if (t346.length : Int) = 2 then ((qP.f bt320.1 bt320.2.1 bt320.2.2.1 bt320.2.2.2.1 bt320.2.2.2.2.1 bt320.2.2.2.2.2.1 bt320.2.2.2.2.2.2.1).bind fun t349 => (some t349)) else (some false))) else (some false)) else (some false)))) else (some false)))) = some r := by first | (rw [hy295]; with_reducible exact H) | (have H2_ := (Option.bind_some _ _).symm.trans H; rw [hy295]; with_reducible exact H2_) | (have H2_ := (Option.bind_some _ _).symm.trans H; with_reducible exact H2_) | with_reducible exact H | (rw [hy295]; exact H) | exact H
 have Ny295 := za.mk hy295
 clear hy295
 replace H := Option.bind_eq_some_iff.mp H
 obtain ⟨⟨t298, t299, t302, t303, t306, t309, t312, t315⟩, A10, H⟩ := H
 replace H : ((qE.f 3 y291 2 (([0, 1, 0] : List Int)) ([] : List Int)).bind fun bt320 => (if t315 = 0 then ((qi.f k t298 t299 t302 t303 t306 t309 t312).bind fun t339 => ((zM.f k t339 (([1, 1, 1] : List Int))).bind fun t345 => (if t345 = 0 then (if bt320.2.2.2.2.2.2.2 = 0 then ((qW.f k bt320.1 bt320.2.1 bt320.2.2.1 bt320.2.2.2.1 bt320.2.2.2.2.1 bt320.2.2.2.2.2.1 bt320.2.2.2.2.2.2.1).bind fun t346 => (if (t346.length : Int) = 2 then ((qP.f bt320.1 bt320.2.1 bt320.2.2.1 bt320.2.2.2.1 bt320.2.2.2.2.1 bt320.2.2.2.2.2.1 bt320.2.2.2.2.2.2.1).bind fun t349 => (some t349)) else (some false))) else (some false)) else (some false)))) else (some false))) = some r := H
 have A1 := za.mk A10
 clear A10
 obtain ⟨y317, hy317⟩ : ∃ y_ : List Int, y_ = (([0, 1, 0] : List Int)) := ⟨_, rfl⟩
 replace H : ((qE.f 3 y291 2 y317 ([] : List Int)).bind fun bt320 => (if t315 = 0 then ((qi.f k t298 t299 t302 t303 t306 t309 t312).bind fun t339 => ((zM.f k t339 (([1, 1, 1] : List Int))).bind fun t345 => (if t345 = 0 then (if bt320.2.2.2.2.2.2.2 = 0 then ((qW.f k bt320.1 bt320.2.1 bt320.2.2.1 bt320.2.2.2.1 bt320.2.2.2.2.1 bt320.2.2.2.2.2.1 bt320.2.2.2.2.2.2.1).bind fun t346 => (if (t346.length : Int) = 2 then ((qP.f bt320.1 bt320.2.1 bt320.2.2.1 bt320.2.2.2.1 bt320.2.2.2.2.1 bt320.2.2.2.2.2.1 bt320.2.2.2.2.2.2.1).bind fun t349 => (some t349)) else (some false))) else (some false)) else (some false)))) else (some false))) = some r := by first | (rw [hy317]; with_reducible exact H) | (have H2_ := (Option.bind_some _ _).symm.trans H; rw [hy317]; with_reducible exact H2_) | (have H2_ := (Option.bind_some _ _).symm.trans H; with_reducible exact H2_) | with_reducible exact H | (rw [hy317]; exact H) | exact H
 have Ny317 := za.mk hy317
 clear hy317
 replace H := Option.bind_eq_some_iff.mp H
 obtain ⟨⟨t320, t321, t324, t325, t328, t331, t334, t337⟩, A20, H⟩ := H
 replace H : (if t315 = 0 then ((qi.f k t298 t299 t302 t303 t306 t309 t312).bind fun t339 => ((zM.f k t339 (([1, 1, 1] : List Int))).bind fun t345 => (if t345 = 0 then (if t337 = 0 then ((qW.f k t320 t321 t324 t325 t328 t331 t334).bind fun t346 => (if (t346.length : Int) = 2 then ((qP.f t320 t321 t324 t325 t328 t331 t334).bind fun t349 => (some t349)) else (some false))) else (some false)) else (some false)))) else (some false)) = some r := H
 have A2 := za.mk A20
 clear A20
 by_cases c3 : t315 = 0
 ·rw [if_pos c3] at H
  have c3b0 : (t315 == 0) = true := beq_iff_eq.mpr c3
  have c3b1 : (t315 != 0) = false := bne_eq_false_iff_eq.mpr c3
  clear c3
  replace H := Option.bind_eq_some_iff.mp H
  obtain ⟨t339, A40, H⟩ := H
  replace H : ((zM.f k t339 (([1, 1, 1] : List Int))).bind fun t345 => (if t345 = 0 then (if t337 = 0 then ((qW.f k t320 t321 t324 t325 t328 t331 t334).bind fun t346 => (if (t346.length : Int) = 2 then ((qP.f t320 t321 t324 t325 t328 t331 t334).bind fun t349 => (some t349)) else (some false))) else (some false)) else (some false))) = some r := H
  have A4 := za.mk A40
  clear A40
  obtain ⟨y342, hy342⟩ : ∃ y_ : List Int, y_ = (([1, 1, 1] : List Int)) := ⟨_, rfl⟩
  replace H : ((zM.f k t339 y342).bind fun t345 => (if t345 = 0 then (if t337 = 0 then ((qW.f k t320 t321 t324 t325 t328 t331 t334).bind fun t346 => (if (t346.length : Int) = 2 then ((qP.f t320 t321 t324 t325 t328 t331 t334).bind fun t349 => (some t349)) else (some false))) else (some false)) else (some false))) = some r := by first | (rw [hy342]; with_reducible exact H) | (have H2_ := (Option.bind_some _ _).symm.trans H; rw [hy342]; with_reducible exact H2_) | (have H2_ := (Option.bind_some _ _).symm.trans H; with_reducible exact H2_) | with_reducible exact H | (rw [hy342]; exact H) | exact H
  have Ny342 := za.mk hy342
  clear hy342
  replace H := Option.bind_eq_some_iff.mp H
  obtain ⟨t345, A50, H⟩ := H
  replace H : (if t345 = 0 then (if t337 = 0 then ((qW.f k t320 t321 t324 t325 t328 t331 t334).bind fun t346 => (if (t346.length : Int) = 2 then ((qP.f t320 t321 t324 t325 t328 t331 t334).bind fun t349 => (some t349)) else (some false))) else (some false)) else (some false)) = some r := H
  have A5 := za.mk A50
  clear A50
  by_cases c6 : t345 = 0
  ·rw [if_pos c6] at H
   have c6b0 : (t345 == 0) = true := beq_iff_eq.mpr c6
   have c6b1 : (t345 != 0) = false := bne_eq_false_iff_eq.mpr c6
   clear c6
   by_cases c7 : t337 = 0
   ·rw [if_pos c7] at H
    have c7b0 : (t337 == 0) = true := beq_iff_eq.mpr c7
    have c7b1 : (t337 != 0) = false := bne_eq_false_iff_eq.mpr c7
    clear c7
    replace H := Option.bind_eq_some_iff.mp H
    obtain ⟨t346, A80, H⟩ := H
    replace H : (if (t346.length : Int) = 2 then ((qP.f t320 t321 t324 t325 t328 t331 t334).bind fun t349 => (some t349)) else (some false)) = some r := H
    have A8 := za.mk A80
    clear A80
    by_cases c9 : (t346.length : Int) = 2
    ·rw [if_pos c9] at H
     have c9b0 : ((t346.length : Int) == 2) = true := beq_iff_eq.mpr c9
     have c9b1 : ((t346.length : Int) != 2) = false := bne_eq_false_iff_eq.mpr c9
     clear c9
     replace H := Option.bind_eq_some_iff.mp H
     obtain ⟨t349, A100, H⟩ := H
     replace H : (some t349) = some r := H
     have A10 := za.mk A100
     clear A100
     obtain rfl := Option.some.inj H
     go_enter Try.func9, Try.ntmps9
     go_wp2_with (first | ((with_reducible refine qJ (N := 8) rfl ?_); (try (refine Qo (by rfl) ?_; dsimp only)); refine Kd.R_lit k66 _ 66 ?hg (N := 8) ?hd (xs := ([(⟨0, 1⟩ : S66), (⟨1, 2⟩ : S66)] : List (S66))) (inner := [.int .i64 0, .int .i64 1, .int .i64 1, .int .i64 2]) (ok := fun _ => True) (okp := fun _ => True) ?hr ?hp (fun _ hk => hk) trivial (Below.refl _ _) (Nat.le_refl _) (by simp) ?_; (case hd => rfl); (case hg => rfl); (case hr => first | (go_simp; done) | (go_simp; rfl)); (case hp => exact (Reps.c2 (show Kd.M k66 _ _ _ (⟨0, 1⟩ : S66) [.int .i64 0, .int .i64 1] from (k66_mkM _ _ _ (⟨0, 1⟩ : S66) )) (Reps.c2 (show Kd.M k66 _ _ _ (⟨1, 2⟩ : S66) [.int .i64 1, .int .i64 2] from (k66_mkM _ _ _ (⟨1, 2⟩ : S66) )) (Reps.none _ _)))); intro v292 w11 ho12 hb hg_ hnew_; clear hg_ hnew_; (first | rw [← Ny291.out] at ho12 | (simp only [Int.reduceToNat] at ho12; rw [← Ny291.out] at ho12)); have n0_ := za.mk (Kd.qM ho12 (zB (by repeat (first | (with_reducible first | exact HB.out | apply zf | apply zb | apply zg) | exact HB.out)))); have n1_ := za.mk (zT (by repeat (first | (with_reducible first | exact HB.out | apply zf | apply zb | apply zg) | exact HB.out)) hb); clear HB; have HO293 := n0_; have HB := n1_; clear n0_ n1_; clear hb ho12; obtain ⟨Ao13, co13, eo13⟩ := Kd.qC HO293.out; subst eo13) | ((with_reducible refine qJ (N := 1) rfl ?_); (try (refine Qo (by rfl) ?_; dsimp only)); refine qI ?hg (N := 1) ?hd (cs := #[.int .i64 0, .slice none 0 0]) (t := 29) ?hr ?_; (case hd => rfl); (case hg => rfl); (case hr => first | (go_simp; done) | (go_simp; rfl)); intro gb294 hg w14 hbox hb; have n0_ := za.mk (Kd.zL (by (with_reducible repeat (first | apply Kd.zn | apply Kd.zq | apply Kd.zu)); exact HO293.out) hb); have n1_ := za.mk (zT (by repeat (first | (with_reducible first | exact HB.out | apply zf | apply zb | apply zg) | exact HB.out)) hb); have n2_ := za.mk (hbox); have n3_ := za.mk ((by rw [hg]; exact (zB (by repeat (first | (with_reducible first | exact HB.out | apply zf | apply zb | apply zg) | exact HB.out))) : w.heap.size ≤ gb294)); have n4_ := za.mk ((by rw [hg]; exact (zB (by repeat (first | (with_reducible first | exact HB.out | apply zf | apply zb | apply zg) | exact HB.out))) : w.heap.size ≤ gb294)); clear HO293; clear HB; have HO293 := n0_; have HB := n1_; have BK294 := n2_; have GW294 := n3_; have GE294 := n4_; clear n0_ n1_ n2_ n3_ n4_; clear hb hbox hg; have hcz15_0 : w14.cell? ⟨gb294, 0, none⟩ = some (.int .i64 0) := (ze BK294.out 0).trans rfl; have hcz15_1 : w14.cell? ⟨gb294, 1, none⟩ = some (.slice none 0 0) := (ze BK294.out 1).trans rfl; have hfz15_0 := zl BK294.out 0; have hfz15_1 := zl BK294.out 1) | ((with_reducible refine qJ (N := 12) rfl ?_); (try (refine Qo (by rfl) ?_; dsimp only)); refine Kd.R_lit (Kd.int .i64) _ 3 ?hg (N := 12) ?hd (xs := ([0, 0, 0] : List Int)) (inner := [.int .i64 0, .int .i64 0, .int .i64 0]) (ok := fun _ => True) (okp := fun _ => True) ?hr ?hp (fun _ hk => hk) trivial (Below.refl _ _) (Nat.le_refl _) (by simp) ?_; (case hd => rfl); (case hg => rfl); (case hr => first | (go_simp; done) | (go_simp; rfl)); (case hp => exact (Reps.one (show Kd.M (Kd.int .i64) _ _ _ 0 [.int .i64 0] from rfl) (Reps.one (show Kd.M (Kd.int .i64) _ _ _ 0 [.int .i64 0] from rfl) (Reps.one (show Kd.M (Kd.int .i64) _ _ _ 0 [.int .i64 0] from rfl) (Reps.none _ _))))); intro v296 w16 ho17 hb hg_ hnew_; clear hg_ hnew_; (first | rw [← Ny295.out] at ho17 | (simp only [Int.reduceToNat] at ho17; rw [← Ny295.out] at ho17)); have n0_ := za.mk (Kd.zL (by (with_reducible repeat (first | apply Kd.zn | apply Kd.zq | apply Kd.zu)); exact (Kd.zR (Kd.zz (p := ⟨gb294, 1, none⟩) (Kd.zz (p := ⟨gb294, 0, none⟩) (Kd.qw HO293.out BK294.out (by decide)) (fun _ hk => hk.2) (.int .i64 3)) (fun _ hk => hk.2) (.slice Ao13 y291.length co13)) (fun _ h_ => h_.1))) hb); have n1_ := za.mk (Kd.qM ho17 (zB (by repeat (first | (with_reducible first | exact HB.out | apply zf | apply zb | apply zg | refine zi ?_ GE294.out) | exact HB.out)))); have n2_ := za.mk (zW (g := gb294) (o := .cells #[.int .i64 3, .slice Ao13 y291.length co13] 29 (0, 0)) (by (with_reducible repeat (first | refine zk ?_ _ | refine zm ?_ | refine zh ?_ _)); refine zX (cs := #[.int .i64 3, .slice none 0 0]) ?_ 1 _ rfl; (with_reducible repeat (first | refine zk ?_ _ | refine zm ?_ | refine zh ?_ _)); refine zX (cs := #[.int .i64 0, .slice none 0 0]) ?_ 0 _ rfl; (with_reducible repeat (first | refine zk ?_ _ | refine zm ?_ | refine zh ?_ _)); exact BK294.out) hb); have n3_ := za.mk (zT (by repeat (first | (with_reducible first | exact HB.out | apply zf | apply zb | apply zg | refine zi ?_ GE294.out) | exact HB.out)) hb); clear HO293; clear BK294; clear HB; have HO293 := n0_; have HO297 := n1_; have BK294 := n2_; have HB := n3_; clear n0_ n1_ n2_ n3_; clear hb ho17; obtain ⟨Ao18, co18, eo18⟩ := Kd.qC HO297.out; subst eo18) | ((with_reducible refine qc (f := 13) rfl ?_); refine qU (some 14) rfl rfl Try.func13 (by kernel_rfl) rfl #[.agg #[.int .i64 3, .slice Ao13 y291.length co13], .agg #[.int .i64 1, .slice Ao18 y295.length co18, .slice none 0 0]] rfl (by (try simp only [List.map_toArray, List.map_cons, List.map_nil]); first | done | rfl | (simp only [List.length_drop, List.length_take]; rfl)) ?_; (refine (qE.calls 3 _ _ y291 1 _ _ y295 _ _ ([] : List Int) t298 t299 t302 t303 t306 t309 t312 t315 _ ?side1 ?side2 ?side3 ?side4 ?side5 ?side6 A1.out).mono ?_); (case side1 => repeat (first | exact (Kd.zO HO293.out).2.2 | (with_reducible refine Kd.qA ?_ _) | (with_reducible refine Kd.qz ?_ _) | (with_reducible refine Kd.qF ?_))); (case side2 => exact (Kd.zO HO293.out).2.1); (case side3 => repeat (first | exact (Kd.zO HO297.out).2.2 | (with_reducible refine Kd.qA ?_ _) | (with_reducible refine Kd.qz ?_ _) | (with_reducible refine Kd.qF ?_))); (case side4 => exact (Kd.zO HO297.out).2.1); (case side5 => exact Kd.C_nil _ _); (case side6 => exact Nat.le_refl _); rintro e w19 ⟨v300, v304, v307, v310, v313, rfl, ho0, ho1, ho2, ho3, ho4, hb⟩; refine ⟨_, rfl, ?_⟩; have n0_ := za.mk (Kd.qG (by (with_reducible repeat (first | apply Kd.zn | apply Kd.zq | apply Kd.zu)); exact HO293.out) (Kd.qL ho0) hb); have n1_ := za.mk (Kd.zR (Kd.ZY (Kd.ZY (Kd.R_old (by (with_reducible repeat (first | apply Kd.zn | apply Kd.zq | apply Kd.zu)); exact HO297.out) hb) (Kd.qL ho1)) (Kd.qL ho2)) (fun _ h_ => h_.1)); have n2_ := za.mk (Kd.qM (Kd.qN ho0 (Kd.R_lt (by (with_reducible repeat (first | apply Kd.zn | apply Kd.zq | apply Kd.zu)); exact HO293.out))) (zB (by repeat (first | (with_reducible first | exact HB.out | apply zf | apply zb | apply zg | refine zi ?_ GE294.out) | exact HB.out)))); have n3_ := za.mk (Kd.qM (Kd.qN ho1 (Kd.R_lt (by (with_reducible repeat (first | apply Kd.zn | apply Kd.zq | apply Kd.zu)); exact HO297.out))) (zB (by repeat (first | (with_reducible first | exact HB.out | apply zf | apply zb | apply zg | refine zi ?_ GE294.out) | exact HB.out)))); have n4_ := za.mk (Kd.qM (Kd.qN ho2 (Kd.R_lt (by (with_reducible repeat (first | apply Kd.zn | apply Kd.zq | apply Kd.zu)); exact HO297.out))) (zB (by repeat (first | (with_reducible first | exact HB.out | apply zf | apply zb | apply zg | refine zi ?_ GE294.out) | exact HB.out)))); have n5_ := za.mk (Kd.qM (Kd.qN ho3 (Kd.R_lt (by (with_reducible repeat (first | apply Kd.zn | apply Kd.zq | apply Kd.zu)); exact HO297.out))) (zB (by repeat (first | (with_reducible first | exact HB.out | apply zf | apply zb | apply zg | refine zi ?_ GE294.out) | exact HB.out)))); have n6_ := za.mk (Kd.qM ho4 (zB (by repeat (first | (with_reducible first | exact HB.out | apply zf | apply zb | apply zg | refine zi ?_ GE294.out) | exact HB.out)))); have n7_ := za.mk (zW (g := gb294) (o := .cells #[.int .i64 3, .slice Ao13 y291.length co13] 29 (0, 0)) (by (with_reducible repeat (first | refine zk ?_ _ | refine zm ?_ | refine zh ?_ _)); exact BK294.out) hb); have n8_ := za.mk (zT (by repeat (first | (with_reducible first | exact HB.out | apply zf | apply zb | apply zg | refine zi ?_ GE294.out) | exact HB.out)) hb); clear HO293; clear HO297; clear BK294; clear HB; have HO293 := n0_; have HO297 := n1_; have HO301 := n2_; have HO305 := n3_; have HO308 := n4_; have HO311 := n5_; have HO314 := n6_; have BK294 := n7_; have HB := n8_; clear n0_ n1_ n2_ n3_ n4_ n5_ n6_ n7_ n8_; (try clear hb); (try clear hb2); (try clear hk); (try clear hi); (try clear ho0); (try clear ho1); (try clear ho2); (try clear ho3); (try clear ho4)) | ((with_reducible refine qJ (N := 2) rfl ?_); (try (refine Qo (by rfl) ?_; dsimp only)); refine qI ?hg (N := 2) ?hd (cs := #[.int .i64 0, .slice none 0 0, .int .i64 0, .slice none 0 0, .slice none 0 0, .slice none 0 0, .slice none 0 0]) (t := 37) ?hr ?_; (case hd => rfl); (case hg => rfl); (case hr => first | (go_simp; done) | (go_simp; rfl)); intro gb316 hg w20 hbox hb; have n0_ := za.mk (Kd.zL (by (with_reducible repeat (first | apply Kd.zn | apply Kd.zq | apply Kd.zu)); exact HO293.out) hb); have n1_ := za.mk (Kd.zL (by (with_reducible repeat (first | apply Kd.zn | apply Kd.zq | apply Kd.zu)); exact HO297.out) hb); have n2_ := za.mk (Kd.zL (by (with_reducible repeat (first | apply Kd.zn | apply Kd.zq | apply Kd.zu)); exact HO301.out) hb); have n3_ := za.mk (Kd.zL (by (with_reducible repeat (first | apply Kd.zn | apply Kd.zq | apply Kd.zu)); exact HO305.out) hb); have n4_ := za.mk (Kd.zL (by (with_reducible repeat (first | apply Kd.zn | apply Kd.zq | apply Kd.zu)); exact HO308.out) hb); have n5_ := za.mk (Kd.zL (by (with_reducible repeat (first | apply Kd.zn | apply Kd.zq | apply Kd.zu)); exact HO311.out) hb); have n6_ := za.mk (Kd.zL (by (with_reducible repeat (first | apply Kd.zn | apply Kd.zq | apply Kd.zu)); exact HO314.out) hb); have n7_ := za.mk (zW (g := gb294) (o := .cells #[.int .i64 3, .slice Ao13 y291.length co13] 29 (0, 0)) (by (with_reducible repeat (first | refine zk ?_ _ | refine zm ?_ | refine zh ?_ _)); exact BK294.out) hb); have n8_ := za.mk (zT (by repeat (first | (with_reducible first | exact HB.out | apply zf | apply zb | apply zg | refine zi ?_ GE294.out) | exact HB.out)) hb); have n9_ := za.mk (hbox); have n10_ := za.mk ((by rw [hg]; exact (zB (by repeat (first | (with_reducible first | exact HB.out | apply zf | apply zb | apply zg | refine zi ?_ GE294.out) | exact HB.out))) : w.heap.size ≤ gb316)); have n11_ := za.mk ((by rw [hg]; exact (zB (by repeat (first | (with_reducible first | exact HB.out | apply zf | apply zb | apply zg | refine zi ?_ GE294.out) | exact HB.out))) : w.heap.size ≤ gb316)); have n12_ := za.mk ((by rw [hg]; exact Nat.ne_of_lt (qg (g := gb294) (o := .cells #[.int .i64 3, .slice Ao13 y291.length co13] 29 (0, 0)) (by (with_reducible repeat (first | refine zk ?_ _ | refine zm ?_ | refine zh ?_ _)); exact BK294.out)) : gb294 ≠ gb316)); have n13_ := za.mk ((by rw [hg]; exact Nat.ne_of_gt (qg (g := gb294) (o := .cells #[.int .i64 3, .slice Ao13 y291.length co13] 29 (0, 0)) (by (with_reducible repeat (first | refine zk ?_ _ | refine zm ?_ | refine zh ?_ _)); exact BK294.out)) : gb316 ≠ gb294)); clear HO293; clear HO297; clear HO301; clear HO305; clear HO308; clear HO311; clear HO314; clear BK294; clear HB; have HO293 := n0_; have HO297 := n1_; have HO301 := n2_; have HO305 := n3_; have HO308 := n4_; have HO311 := n5_; have HO314 := n6_; have BK294 := n7_; have HB := n8_; have BK316 := n9_; have GW316 := n10_; have GE316 := n11_; have NB294_316 := n12_; have NB316_294 := n13_; clear n0_ n1_ n2_ n3_ n4_ n5_ n6_ n7_ n8_ n9_ n10_ n11_ n12_ n13_; clear hb hbox hg; have hnb21 := NB316_294.out; have hnc21 := NB294_316.out; have hcz22_0 : w20.cell? ⟨gb316, 0, none⟩ = some (.int .i64 0) := (ze BK316.out 0).trans rfl; have hcz22_1 : w20.cell? ⟨gb316, 1, none⟩ = some (.slice none 0 0) := (ze BK316.out 1).trans rfl; have hcz22_2 : w20.cell? ⟨gb316, 2, none⟩ = some (.int .i64 0) := (ze BK316.out 2).trans rfl; have hcz22_3 : w20.cell? ⟨gb316, 3, none⟩ = some (.slice none 0 0) := (ze BK316.out 3).trans rfl; have hcz22_4 : w20.cell? ⟨gb316, 4, none⟩ = some (.slice none 0 0) := (ze BK316.out 4).trans rfl; have hcz22_5 : w20.cell? ⟨gb316, 5, none⟩ = some (.slice none 0 0) := (ze BK316.out 5).trans rfl; have hcz22_6 : w20.cell? ⟨gb316, 6, none⟩ = some (.slice none 0 0) := (ze BK316.out 6).trans rfl; have hfz22_0 := zl BK316.out 0; have hfz22_1 := zl BK316.out 1; have hfz22_2 := zl BK316.out 2; have hfz22_3 := zl BK316.out 3; have hfz22_4 := zl BK316.out 4; have hfz22_5 := zl BK316.out 5; have hfz22_6 := zl BK316.out 6; obtain ⟨Ao23, co23, eo23⟩ := Kd.qC HO301.out; subst eo23; obtain ⟨Ao24, co24, eo24⟩ := Kd.qC HO305.out; subst eo24; obtain ⟨Ao25, co25, eo25⟩ := Kd.qC HO308.out; subst eo25; obtain ⟨Ao26, co26, eo26⟩ := Kd.qC HO311.out; subst eo26; obtain ⟨Ao27, co27, eo27⟩ := Kd.qC HO314.out; subst eo27; have hcz28_0 : w20.cell? ⟨gb294, 0, none⟩ = some (.int .i64 3) := (ze BK294.out 0).trans rfl; have hcz28_1 : w20.cell? ⟨gb294, 1, none⟩ = some (.slice Ao13 y291.length co13) := (ze BK294.out 1).trans rfl; have hfz28_0 := zl BK294.out 0; have hfz28_1 := zl BK294.out 1) | ((with_reducible refine qJ (N := 19) rfl ?_); (try (refine Qo (by rfl) ?_; dsimp only)); refine Kd.R_lit (Kd.int .i64) _ 3 ?hg (N := 19) ?hd (xs := ([0, 1, 0] : List Int)) (inner := [.int .i64 0, .int .i64 1, .int .i64 0]) (ok := fun _ => True) (okp := fun _ => True) ?hr ?hp (fun _ hk => hk) trivial (Below.refl _ _) (Nat.le_refl _) (by simp) ?_; (case hd => rfl); (case hg => rfl); (case hr => first | (go_simp; done) | (go_simp; rfl)); (case hp => exact (Reps.one (show Kd.M (Kd.int .i64) _ _ _ 0 [.int .i64 0] from rfl) (Reps.one (show Kd.M (Kd.int .i64) _ _ _ 1 [.int .i64 1] from rfl) (Reps.one (show Kd.M (Kd.int .i64) _ _ _ 0 [.int .i64 0] from rfl) (Reps.none _ _))))); intro v318 w29 ho30 hb hg_ hnew_; clear hg_ hnew_; (first | rw [← Ny317.out] at ho30 | (simp only [Int.reduceToNat] at ho30; rw [← Ny317.out] at ho30)); have n0_ := za.mk (Kd.zL (by (with_reducible repeat (first | apply Kd.zn | apply Kd.zq | apply Kd.zu)); exact (Kd.zR (Kd.zz (p := ⟨gb316, 6, none⟩) (Kd.zz (p := ⟨gb316, 5, none⟩) (Kd.zz (p := ⟨gb316, 4, none⟩) (Kd.zz (p := ⟨gb316, 3, none⟩) (Kd.zz (p := ⟨gb316, 2, none⟩) (Kd.zz (p := ⟨gb316, 1, none⟩) (Kd.zz (p := ⟨gb316, 0, none⟩) (Kd.qw HO293.out BK316.out (by decide)) (fun _ hk => hk.2) (.int .i64 t298)) (fun _ hk => hk.2) (.slice Ao23 t299.length co23)) (fun _ hk => hk.2) (.int .i64 t302)) (fun _ hk => hk.2) (.slice Ao24 t303.length co24)) (fun _ hk => hk.2) (.slice Ao25 t306.length co25)) (fun _ hk => hk.2) (.slice Ao26 t309.length co26)) (fun _ hk => hk.2) (.slice Ao27 t312.length co27)) (fun _ h_ => h_.1))) hb); have n1_ := za.mk (Kd.qG (by (with_reducible repeat (first | apply Kd.zn | apply Kd.zq | apply Kd.zu)); exact (Kd.zR (Kd.zz (p := ⟨gb316, 6, none⟩) (Kd.zz (p := ⟨gb316, 5, none⟩) (Kd.zz (p := ⟨gb316, 4, none⟩) (Kd.zz (p := ⟨gb316, 3, none⟩) (Kd.zz (p := ⟨gb316, 2, none⟩) (Kd.zz (p := ⟨gb316, 1, none⟩) (Kd.zz (p := ⟨gb316, 0, none⟩) (Kd.qw HO297.out BK316.out (by decide)) (fun _ hk => hk.2) (.int .i64 t298)) (fun _ hk => hk.2) (.slice Ao23 t299.length co23)) (fun _ hk => hk.2) (.int .i64 t302)) (fun _ hk => hk.2) (.slice Ao24 t303.length co24)) (fun _ hk => hk.2) (.slice Ao25 t306.length co25)) (fun _ hk => hk.2) (.slice Ao26 t309.length co26)) (fun _ hk => hk.2) (.slice Ao27 t312.length co27)) (fun _ h_ => h_.1))) (Kd.qL ho30) hb); have n2_ := za.mk (Kd.zL (by (with_reducible repeat (first | apply Kd.zn | apply Kd.zq | apply Kd.zu)); exact (Kd.zR (Kd.zz (p := ⟨gb316, 6, none⟩) (Kd.zz (p := ⟨gb316, 5, none⟩) (Kd.zz (p := ⟨gb316, 4, none⟩) (Kd.zz (p := ⟨gb316, 3, none⟩) (Kd.zz (p := ⟨gb316, 2, none⟩) (Kd.zz (p := ⟨gb316, 1, none⟩) (Kd.zz (p := ⟨gb316, 0, none⟩) (Kd.qw HO301.out BK316.out (by decide)) (fun _ hk => hk.2) (.int .i64 t298)) (fun _ hk => hk.2) (.slice Ao23 t299.length co23)) (fun _ hk => hk.2) (.int .i64 t302)) (fun _ hk => hk.2) (.slice Ao24 t303.length co24)) (fun _ hk => hk.2) (.slice Ao25 t306.length co25)) (fun _ hk => hk.2) (.slice Ao26 t309.length co26)) (fun _ hk => hk.2) (.slice Ao27 t312.length co27)) (fun _ h_ => h_.1))) hb); have n3_ := za.mk (Kd.qG (by (with_reducible repeat (first | apply Kd.zn | apply Kd.zq | apply Kd.zu)); exact (Kd.zR (Kd.zz (p := ⟨gb316, 6, none⟩) (Kd.zz (p := ⟨gb316, 5, none⟩) (Kd.zz (p := ⟨gb316, 4, none⟩) (Kd.zz (p := ⟨gb316, 3, none⟩) (Kd.zz (p := ⟨gb316, 2, none⟩) (Kd.zz (p := ⟨gb316, 1, none⟩) (Kd.zz (p := ⟨gb316, 0, none⟩) (Kd.qw HO305.out BK316.out (by decide)) (fun _ hk => hk.2) (.int .i64 t298)) (fun _ hk => hk.2) (.slice Ao23 t299.length co23)) (fun _ hk => hk.2) (.int .i64 t302)) (fun _ hk => hk.2) (.slice Ao24 t303.length co24)) (fun _ hk => hk.2) (.slice Ao25 t306.length co25)) (fun _ hk => hk.2) (.slice Ao26 t309.length co26)) (fun _ hk => hk.2) (.slice Ao27 t312.length co27)) (fun _ h_ => h_.1))) (Kd.qL ho30) hb); have n4_ := za.mk (Kd.qG (by (with_reducible repeat (first | apply Kd.zn | apply Kd.zq | apply Kd.zu)); exact (Kd.zR (Kd.zz (p := ⟨gb316, 6, none⟩) (Kd.zz (p := ⟨gb316, 5, none⟩) (Kd.zz (p := ⟨gb316, 4, none⟩) (Kd.zz (p := ⟨gb316, 3, none⟩) (Kd.zz (p := ⟨gb316, 2, none⟩) (Kd.zz (p := ⟨gb316, 1, none⟩) (Kd.zz (p := ⟨gb316, 0, none⟩) (Kd.qw HO308.out BK316.out (by decide)) (fun _ hk => hk.2) (.int .i64 t298)) (fun _ hk => hk.2) (.slice Ao23 t299.length co23)) (fun _ hk => hk.2) (.int .i64 t302)) (fun _ hk => hk.2) (.slice Ao24 t303.length co24)) (fun _ hk => hk.2) (.slice Ao25 t306.length co25)) (fun _ hk => hk.2) (.slice Ao26 t309.length co26)) (fun _ hk => hk.2) (.slice Ao27 t312.length co27)) (fun _ h_ => h_.1))) (Kd.qL ho30) hb); have n5_ := za.mk (Kd.qG (by (with_reducible repeat (first | apply Kd.zn | apply Kd.zq | apply Kd.zu)); exact (Kd.zR (Kd.zz (p := ⟨gb316, 6, none⟩) (Kd.zz (p := ⟨gb316, 5, none⟩) (Kd.zz (p := ⟨gb316, 4, none⟩) (Kd.zz (p := ⟨gb316, 3, none⟩) (Kd.zz (p := ⟨gb316, 2, none⟩) (Kd.zz (p := ⟨gb316, 1, none⟩) (Kd.zz (p := ⟨gb316, 0, none⟩) (Kd.qw HO311.out BK316.out (by decide)) (fun _ hk => hk.2) (.int .i64 t298)) (fun _ hk => hk.2) (.slice Ao23 t299.length co23)) (fun _ hk => hk.2) (.int .i64 t302)) (fun _ hk => hk.2) (.slice Ao24 t303.length co24)) (fun _ hk => hk.2) (.slice Ao25 t306.length co25)) (fun _ hk => hk.2) (.slice Ao26 t309.length co26)) (fun _ hk => hk.2) (.slice Ao27 t312.length co27)) (fun _ h_ => h_.1))) (Kd.qL ho30) hb); have n6_ := za.mk (Kd.zL (by (with_reducible repeat (first | apply Kd.zn | apply Kd.zq | apply Kd.zu)); exact (Kd.zR (Kd.zz (p := ⟨gb316, 6, none⟩) (Kd.zz (p := ⟨gb316, 5, none⟩) (Kd.zz (p := ⟨gb316, 4, none⟩) (Kd.zz (p := ⟨gb316, 3, none⟩) (Kd.zz (p := ⟨gb316, 2, none⟩) (Kd.zz (p := ⟨gb316, 1, none⟩) (Kd.zz (p := ⟨gb316, 0, none⟩) (Kd.qw HO314.out BK316.out (by decide)) (fun _ hk => hk.2) (.int .i64 t298)) (fun _ hk => hk.2) (.slice Ao23 t299.length co23)) (fun _ hk => hk.2) (.int .i64 t302)) (fun _ hk => hk.2) (.slice Ao24 t303.length co24)) (fun _ hk => hk.2) (.slice Ao25 t306.length co25)) (fun _ hk => hk.2) (.slice Ao26 t309.length co26)) (fun _ hk => hk.2) (.slice Ao27 t312.length co27)) (fun _ h_ => h_.1))) hb); have n7_ := za.mk (Kd.qM (Kd.qN (Kd.qN (Kd.qN ho30 (Kd.R_lt (by (with_reducible repeat (first | apply Kd.zn | apply Kd.zq | apply Kd.zu)); exact (Kd.zR (Kd.zz (p := ⟨gb316, 6, none⟩) (Kd.zz (p := ⟨gb316, 5, none⟩) (Kd.zz (p := ⟨gb316, 4, none⟩) (Kd.zz (p := ⟨gb316, 3, none⟩) (Kd.zz (p := ⟨gb316, 2, none⟩) (Kd.zz (p := ⟨gb316, 1, none⟩) (Kd.zz (p := ⟨gb316, 0, none⟩) (Kd.qw HO297.out BK316.out (by decide)) (fun _ hk => hk.2) (.int .i64 t298)) (fun _ hk => hk.2) (.slice Ao23 t299.length co23)) (fun _ hk => hk.2) (.int .i64 t302)) (fun _ hk => hk.2) (.slice Ao24 t303.length co24)) (fun _ hk => hk.2) (.slice Ao25 t306.length co25)) (fun _ hk => hk.2) (.slice Ao26 t309.length co26)) (fun _ hk => hk.2) (.slice Ao27 t312.length co27)) (fun _ h_ => h_.1))))) (Kd.R_lt (by (with_reducible repeat (first | apply Kd.zn | apply Kd.zq | apply Kd.zu)); exact (Kd.zR (Kd.zz (p := ⟨gb316, 6, none⟩) (Kd.zz (p := ⟨gb316, 5, none⟩) (Kd.zz (p := ⟨gb316, 4, none⟩) (Kd.zz (p := ⟨gb316, 3, none⟩) (Kd.zz (p := ⟨gb316, 2, none⟩) (Kd.zz (p := ⟨gb316, 1, none⟩) (Kd.zz (p := ⟨gb316, 0, none⟩) (Kd.qw HO305.out BK316.out (by decide)) (fun _ hk => hk.2) (.int .i64 t298)) (fun _ hk => hk.2) (.slice Ao23 t299.length co23)) (fun _ hk => hk.2) (.int .i64 t302)) (fun _ hk => hk.2) (.slice Ao24 t303.length co24)) (fun _ hk => hk.2) (.slice Ao25 t306.length co25)) (fun _ hk => hk.2) (.slice Ao26 t309.length co26)) (fun _ hk => hk.2) (.slice Ao27 t312.length co27)) (fun _ h_ => h_.1))))) (Kd.R_lt (by (with_reducible repeat (first | apply Kd.zn | apply Kd.zq | apply Kd.zu)); exact (Kd.zR (Kd.zz (p := ⟨gb316, 6, none⟩) (Kd.zz (p := ⟨gb316, 5, none⟩) (Kd.zz (p := ⟨gb316, 4, none⟩) (Kd.zz (p := ⟨gb316, 3, none⟩) (Kd.zz (p := ⟨gb316, 2, none⟩) (Kd.zz (p := ⟨gb316, 1, none⟩) (Kd.zz (p := ⟨gb316, 0, none⟩) (Kd.qw HO308.out BK316.out (by decide)) (fun _ hk => hk.2) (.int .i64 t298)) (fun _ hk => hk.2) (.slice Ao23 t299.length co23)) (fun _ hk => hk.2) (.int .i64 t302)) (fun _ hk => hk.2) (.slice Ao24 t303.length co24)) (fun _ hk => hk.2) (.slice Ao25 t306.length co25)) (fun _ hk => hk.2) (.slice Ao26 t309.length co26)) (fun _ hk => hk.2) (.slice Ao27 t312.length co27)) (fun _ h_ => h_.1))))) (zB (by repeat (first | (with_reducible first | exact HB.out | apply zf | apply zb | apply zg | refine zi ?_ GE294.out | refine zi ?_ GE316.out) | exact HB.out)))); have n8_ := za.mk (zW (g := gb294) (o := .cells #[.int .i64 3, .slice Ao13 y291.length co13] 29 (0, 0)) (by (with_reducible repeat (first | refine zk ?_ _ | refine zm ?_ | refine zh ?_ _)); refine ql ?_ NB294_316.out _; (with_reducible repeat (first | refine zk ?_ _ | refine zm ?_ | refine zh ?_ _)); refine ql ?_ NB294_316.out _; (with_reducible repeat (first | refine zk ?_ _ | refine zm ?_ | refine zh ?_ _)); refine ql ?_ NB294_316.out _; (with_reducible repeat (first | refine zk ?_ _ | refine zm ?_ | refine zh ?_ _)); refine ql ?_ NB294_316.out _; (with_reducible repeat (first | refine zk ?_ _ | refine zm ?_ | refine zh ?_ _)); refine ql ?_ NB294_316.out _; (with_reducible repeat (first | refine zk ?_ _ | refine zm ?_ | refine zh ?_ _)); refine ql ?_ NB294_316.out _; (with_reducible repeat (first | refine zk ?_ _ | refine zm ?_ | refine zh ?_ _)); refine ql ?_ NB294_316.out _; (with_reducible repeat (first | refine zk ?_ _ | refine zm ?_ | refine zh ?_ _)); exact BK294.out) hb); have n9_ := za.mk (zW (g := gb316) (o := .cells #[.int .i64 t298, .slice Ao23 t299.length co23, .int .i64 t302, .slice Ao24 t303.length co24, .slice Ao25 t306.length co25, .slice Ao26 t309.length co26, .slice Ao27 t312.length co27] 37 (0, 0)) (by (with_reducible repeat (first | refine zk ?_ _ | refine zm ?_ | refine zh ?_ _)); refine zX (cs := #[.int .i64 t298, .slice Ao23 t299.length co23, .int .i64 t302, .slice Ao24 t303.length co24, .slice Ao25 t306.length co25, .slice Ao26 t309.length co26, .slice none 0 0]) ?_ 6 _ rfl; (with_reducible repeat (first | refine zk ?_ _ | refine zm ?_ | refine zh ?_ _)); refine zX (cs := #[.int .i64 t298, .slice Ao23 t299.length co23, .int .i64 t302, .slice Ao24 t303.length co24, .slice Ao25 t306.length co25, .slice none 0 0, .slice none 0 0]) ?_ 5 _ rfl; (with_reducible repeat (first | refine zk ?_ _ | refine zm ?_ | refine zh ?_ _)); refine zX (cs := #[.int .i64 t298, .slice Ao23 t299.length co23, .int .i64 t302, .slice Ao24 t303.length co24, .slice none 0 0, .slice none 0 0, .slice none 0 0]) ?_ 4 _ rfl; (with_reducible repeat (first | refine zk ?_ _ | refine zm ?_ | refine zh ?_ _)); refine zX (cs := #[.int .i64 t298, .slice Ao23 t299.length co23, .int .i64 t302, .slice none 0 0, .slice none 0 0, .slice none 0 0, .slice none 0 0]) ?_ 3 _ rfl; (with_reducible repeat (first | refine zk ?_ _ | refine zm ?_ | refine zh ?_ _)); refine zX (cs := #[.int .i64 t298, .slice Ao23 t299.length co23, .int .i64 0, .slice none 0 0, .slice none 0 0, .slice none 0 0, .slice none 0 0]) ?_ 2 _ rfl; (with_reducible repeat (first | refine zk ?_ _ | refine zm ?_ | refine zh ?_ _)); refine zX (cs := #[.int .i64 t298, .slice none 0 0, .int .i64 0, .slice none 0 0, .slice none 0 0, .slice none 0 0, .slice none 0 0]) ?_ 1 _ rfl; (with_reducible repeat (first | refine zk ?_ _ | refine zm ?_ | refine zh ?_ _)); refine zX (cs := #[.int .i64 0, .slice none 0 0, .int .i64 0, .slice none 0 0, .slice none 0 0, .slice none 0 0, .slice none 0 0]) ?_ 0 _ rfl; (with_reducible repeat (first | refine zk ?_ _ | refine zm ?_ | refine zh ?_ _)); exact BK316.out) hb); have n10_ := za.mk (zT (by repeat (first | (with_reducible first | exact HB.out | apply zf | apply zb | apply zg | refine zi ?_ GE294.out | refine zi ?_ GE316.out) | exact HB.out)) hb); clear HO293; clear HO297; clear HO301; clear HO305; clear HO308; clear HO311; clear HO314; clear BK294; clear BK316; clear HB; have HO293 := n0_; have HO297 := n1_; have HO301 := n2_; have HO305 := n3_; have HO308 := n4_; have HO311 := n5_; have HO314 := n6_; have HO319 := n7_; have BK294 := n8_; have BK316 := n9_; have HB := n10_; clear n0_ n1_ n2_ n3_ n4_ n5_ n6_ n7_ n8_ n9_ n10_; clear hb ho30; obtain ⟨Ao31, co31, eo31⟩ := Kd.qC HO319.out; subst eo31) | ((with_reducible refine qc (f := 13) rfl ?_); refine qU (some 21) rfl rfl Try.func13 (by kernel_rfl) rfl #[.agg #[.int .i64 3, .slice Ao13 y291.length co13], .agg #[.int .i64 2, .slice Ao31 y317.length co31, .slice none 0 0]] rfl (by (try simp only [List.map_toArray, List.map_cons, List.map_nil]); first | done | rfl | (simp only [List.length_drop, List.length_take]; rfl)) ?_; (refine (qE.calls 3 _ _ y291 2 _ _ y317 _ _ ([] : List Int) t320 t321 t324 t325 t328 t331 t334 t337 _ ?side1 ?side2 ?side3 ?side4 ?side5 ?side6 A2.out).mono ?_); (case side1 => repeat (first | exact (Kd.zO HO293.out).2.2 | (with_reducible refine Kd.qA ?_ _) | (with_reducible refine Kd.qz ?_ _) | (with_reducible refine Kd.qF ?_))); (case side2 => exact (Kd.zO HO293.out).2.1); (case side3 => repeat (first | exact (Kd.zO HO319.out).2.2 | (with_reducible refine Kd.qA ?_ _) | (with_reducible refine Kd.qz ?_ _) | (with_reducible refine Kd.qF ?_))); (case side4 => exact (Kd.zO HO319.out).2.1); (case side5 => exact Kd.C_nil _ _); (case side6 => exact Nat.le_refl _); rintro e w32 ⟨v322, v326, v329, v332, v335, rfl, ho0, ho1, ho2, ho3, ho4, hb⟩; refine ⟨_, rfl, ?_⟩; have n0_ := za.mk (Kd.qG (by (with_reducible repeat (first | apply Kd.zn | apply Kd.zq | apply Kd.zu)); exact HO293.out) (Kd.qL ho0) hb); have n1_ := za.mk (Kd.zR (Kd.ZY (Kd.ZY (Kd.R_old (by (with_reducible repeat (first | apply Kd.zn | apply Kd.zq | apply Kd.zu)); exact HO297.out) hb) (Kd.qL ho1)) (Kd.qL ho2)) (fun _ h_ => h_.1)); have n2_ := za.mk (Kd.qG (by (with_reducible repeat (first | apply Kd.zn | apply Kd.zq | apply Kd.zu)); exact HO301.out) (Kd.qL ho0) hb); have n3_ := za.mk (Kd.zR (Kd.ZY (Kd.ZY (Kd.R_old (by (with_reducible repeat (first | apply Kd.zn | apply Kd.zq | apply Kd.zu)); exact HO305.out) hb) (Kd.qL ho1)) (Kd.qL ho2)) (fun _ h_ => h_.1)); have n4_ := za.mk (Kd.zR (Kd.ZY (Kd.ZY (Kd.R_old (by (with_reducible repeat (first | apply Kd.zn | apply Kd.zq | apply Kd.zu)); exact HO308.out) hb) (Kd.qL ho1)) (Kd.qL ho2)) (fun _ h_ => h_.1)); have n5_ := za.mk (Kd.zR (Kd.ZY (Kd.ZY (Kd.ZY (Kd.R_old (by (with_reducible repeat (first | apply Kd.zn | apply Kd.zq | apply Kd.zu)); exact HO311.out) hb) (Kd.qL ho1)) (Kd.qL ho2)) (Kd.qL ho3)) (fun _ h_ => h_.1)); have n6_ := za.mk (Kd.qG (by (with_reducible repeat (first | apply Kd.zn | apply Kd.zq | apply Kd.zu)); exact HO314.out) (Kd.qL ho4) hb); have n7_ := za.mk (Kd.zR (Kd.ZY (Kd.ZY (Kd.R_old (by (with_reducible repeat (first | apply Kd.zn | apply Kd.zq | apply Kd.zu)); exact HO319.out) hb) (Kd.qL ho1)) (Kd.qL ho2)) (fun _ h_ => h_.1)); have n8_ := za.mk (Kd.qM (Kd.qN (Kd.qN ho0 (Kd.R_lt (by (with_reducible repeat (first | apply Kd.zn | apply Kd.zq | apply Kd.zu)); exact HO293.out))) (Kd.R_lt (by (with_reducible repeat (first | apply Kd.zn | apply Kd.zq | apply Kd.zu)); exact HO301.out))) (zB (by repeat (first | (with_reducible first | exact HB.out | apply zf | apply zb | apply zg | refine zi ?_ GE294.out | refine zi ?_ GE316.out) | exact HB.out)))); have n9_ := za.mk (Kd.qM (Kd.qN (Kd.qN (Kd.qN (Kd.qN ho1 (Kd.R_lt (by (with_reducible repeat (first | apply Kd.zn | apply Kd.zq | apply Kd.zu)); exact HO297.out))) (Kd.R_lt (by (with_reducible repeat (first | apply Kd.zn | apply Kd.zq | apply Kd.zu)); exact HO305.out))) (Kd.R_lt (by (with_reducible repeat (first | apply Kd.zn | apply Kd.zq | apply Kd.zu)); exact HO308.out))) (Kd.R_lt (by (with_reducible repeat (first | apply Kd.zn | apply Kd.zq | apply Kd.zu)); exact HO319.out))) (zB (by repeat (first | (with_reducible first | exact HB.out | apply zf | apply zb | apply zg | refine zi ?_ GE294.out | refine zi ?_ GE316.out) | exact HB.out)))); have n10_ := za.mk (Kd.qM (Kd.qN (Kd.qN (Kd.qN (Kd.qN ho2 (Kd.R_lt (by (with_reducible repeat (first | apply Kd.zn | apply Kd.zq | apply Kd.zu)); exact HO297.out))) (Kd.R_lt (by (with_reducible repeat (first | apply Kd.zn | apply Kd.zq | apply Kd.zu)); exact HO305.out))) (Kd.R_lt (by (with_reducible repeat (first | apply Kd.zn | apply Kd.zq | apply Kd.zu)); exact HO308.out))) (Kd.R_lt (by (with_reducible repeat (first | apply Kd.zn | apply Kd.zq | apply Kd.zu)); exact HO319.out))) (zB (by repeat (first | (with_reducible first | exact HB.out | apply zf | apply zb | apply zg | refine zi ?_ GE294.out | refine zi ?_ GE316.out) | exact HB.out)))); have n11_ := za.mk (Kd.qM (Kd.qN (Kd.qN (Kd.qN (Kd.qN (Kd.qN ho3 (Kd.R_lt (by (with_reducible repeat (first | apply Kd.zn | apply Kd.zq | apply Kd.zu)); exact HO297.out))) (Kd.R_lt (by (with_reducible repeat (first | apply Kd.zn | apply Kd.zq | apply Kd.zu)); exact HO305.out))) (Kd.R_lt (by (with_reducible repeat (first | apply Kd.zn | apply Kd.zq | apply Kd.zu)); exact HO308.out))) (Kd.R_lt (by (with_reducible repeat (first | apply Kd.zn | apply Kd.zq | apply Kd.zu)); exact HO311.out))) (Kd.R_lt (by (with_reducible repeat (first | apply Kd.zn | apply Kd.zq | apply Kd.zu)); exact HO319.out))) (zB (by repeat (first | (with_reducible first | exact HB.out | apply zf | apply zb | apply zg | refine zi ?_ GE294.out | refine zi ?_ GE316.out) | exact HB.out)))); have n12_ := za.mk (Kd.qM (Kd.qN ho4 (Kd.R_lt (by (with_reducible repeat (first | apply Kd.zn | apply Kd.zq | apply Kd.zu)); exact HO314.out))) (zB (by repeat (first | (with_reducible first | exact HB.out | apply zf | apply zb | apply zg | refine zi ?_ GE294.out | refine zi ?_ GE316.out) | exact HB.out)))); have n13_ := za.mk (zW (g := gb294) (o := .cells #[.int .i64 3, .slice Ao13 y291.length co13] 29 (0, 0)) (by (with_reducible repeat (first | refine zk ?_ _ | refine zm ?_ | refine zh ?_ _)); exact BK294.out) hb); have n14_ := za.mk (zW (g := gb316) (o := .cells #[.int .i64 t298, .slice Ao23 t299.length co23, .int .i64 t302, .slice Ao24 t303.length co24, .slice Ao25 t306.length co25, .slice Ao26 t309.length co26, .slice Ao27 t312.length co27] 37 (0, 0)) (by (with_reducible repeat (first | refine zk ?_ _ | refine zm ?_ | refine zh ?_ _)); exact BK316.out) hb); have n15_ := za.mk (zT (by repeat (first | (with_reducible first | exact HB.out | apply zf | apply zb | apply zg | refine zi ?_ GE294.out | refine zi ?_ GE316.out) | exact HB.out)) hb); clear HO293; clear HO297; clear HO301; clear HO305; clear HO308; clear HO311; clear HO314; clear HO319; clear BK294; clear BK316; clear HB; have HO293 := n0_; have HO297 := n1_; have HO301 := n2_; have HO305 := n3_; have HO308 := n4_; have HO311 := n5_; have HO314 := n6_; have HO319 := n7_; have HO323 := n8_; have HO327 := n9_; have HO330 := n10_; have HO333 := n11_; have HO336 := n12_; have BK294 := n13_; have BK316 := n14_; have HB := n15_; clear n0_ n1_ n2_ n3_ n4_ n5_ n6_ n7_ n8_ n9_ n10_ n11_ n12_ n13_ n14_ n15_; (try clear hb); (try clear hb2); (try clear hk); (try clear hi); (try clear ho0); (try clear ho1); (try clear ho2); (try clear ho3); (try clear ho4)) | ((with_reducible refine qJ (N := 4) rfl ?_); (try (refine Qo (by rfl) ?_; dsimp only)); refine qI ?hg (N := 4) ?hd (cs := #[.int .i64 0, .slice none 0 0, .int .i64 0, .slice none 0 0, .slice none 0 0, .slice none 0 0, .slice none 0 0]) (t := 37) ?hr ?_; (case hd => rfl); (case hg => rfl); (case hr => first | (go_simp; done) | (go_simp; rfl)); intro gb338 hg w33 hbox hb; have n0_ := za.mk (Kd.zL (by (with_reducible repeat (first | apply Kd.zn | apply Kd.zq | apply Kd.zu)); exact HO293.out) hb); have n1_ := za.mk (Kd.zL (by (with_reducible repeat (first | apply Kd.zn | apply Kd.zq | apply Kd.zu)); exact HO297.out) hb); have n2_ := za.mk (Kd.zL (by (with_reducible repeat (first | apply Kd.zn | apply Kd.zq | apply Kd.zu)); exact HO301.out) hb); have n3_ := za.mk (Kd.zL (by (with_reducible repeat (first | apply Kd.zn | apply Kd.zq | apply Kd.zu)); exact HO305.out) hb); have n4_ := za.mk (Kd.zL (by (with_reducible repeat (first | apply Kd.zn | apply Kd.zq | apply Kd.zu)); exact HO308.out) hb); have n5_ := za.mk (Kd.zL (by (with_reducible repeat (first | apply Kd.zn | apply Kd.zq | apply Kd.zu)); exact HO311.out) hb); have n6_ := za.mk (Kd.zL (by (with_reducible repeat (first | apply Kd.zn | apply Kd.zq | apply Kd.zu)); exact HO314.out) hb); have n7_ := za.mk (Kd.zL (by (with_reducible repeat (first | apply Kd.zn | apply Kd.zq | apply Kd.zu)); exact HO319.out) hb); have n8_ := za.mk (Kd.zL (by (with_reducible repeat (first | apply Kd.zn | apply Kd.zq | apply Kd.zu)); exact HO323.out) hb); have n9_ := za.mk (Kd.zL (by (with_reducible repeat (first | apply Kd.zn | apply Kd.zq | apply Kd.zu)); exact HO327.out) hb); have n10_ := za.mk (Kd.zL (by (with_reducible repeat (first | apply Kd.zn | apply Kd.zq | apply Kd.zu)); exact HO330.out) hb); have n11_ := za.mk (Kd.zL (by (with_reducible repeat (first | apply Kd.zn | apply Kd.zq | apply Kd.zu)); exact HO333.out) hb); have n12_ := za.mk (Kd.zL (by (with_reducible repeat (first | apply Kd.zn | apply Kd.zq | apply Kd.zu)); exact HO336.out) hb); have n13_ := za.mk (zW (g := gb294) (o := .cells #[.int .i64 3, .slice Ao13 y291.length co13] 29 (0, 0)) (by (with_reducible repeat (first | refine zk ?_ _ | refine zm ?_ | refine zh ?_ _)); exact BK294.out) hb); have n14_ := za.mk (zW (g := gb316) (o := .cells #[.int .i64 t298, .slice Ao23 t299.length co23, .int .i64 t302, .slice Ao24 t303.length co24, .slice Ao25 t306.length co25, .slice Ao26 t309.length co26, .slice Ao27 t312.length co27] 37 (0, 0)) (by (with_reducible repeat (first | refine zk ?_ _ | refine zm ?_ | refine zh ?_ _)); exact BK316.out) hb); have n15_ := za.mk (zT (by repeat (first | (with_reducible first | exact HB.out | apply zf | apply zb | apply zg | refine zi ?_ GE294.out | refine zi ?_ GE316.out) | exact HB.out)) hb); have n16_ := za.mk (hbox); have n17_ := za.mk ((by rw [hg]; exact (zB (by repeat (first | (with_reducible first | exact HB.out | apply zf | apply zb | apply zg | refine zi ?_ GE294.out | refine zi ?_ GE316.out) | exact HB.out))) : w.heap.size ≤ gb338)); have n18_ := za.mk ((by rw [hg]; exact (zB (by repeat (first | (with_reducible first | exact HB.out | apply zf | apply zb | apply zg | refine zi ?_ GE294.out | refine zi ?_ GE316.out) | exact HB.out))) : w.heap.size ≤ gb338)); have n19_ := za.mk ((by rw [hg]; exact Nat.ne_of_lt (qg (g := gb294) (o := .cells #[.int .i64 3, .slice Ao13 y291.length co13] 29 (0, 0)) (by (with_reducible repeat (first | refine zk ?_ _ | refine zm ?_ | refine zh ?_ _)); exact BK294.out)) : gb294 ≠ gb338)); have n20_ := za.mk ((by rw [hg]; exact Nat.ne_of_gt (qg (g := gb294) (o := .cells #[.int .i64 3, .slice Ao13 y291.length co13] 29 (0, 0)) (by (with_reducible repeat (first | refine zk ?_ _ | refine zm ?_ | refine zh ?_ _)); exact BK294.out)) : gb338 ≠ gb294)); have n21_ := za.mk ((by rw [hg]; exact Nat.ne_of_lt (qg (g := gb316) (o := .cells #[.int .i64 t298, .slice Ao23 t299.length co23, .int .i64 t302, .slice Ao24 t303.length co24, .slice Ao25 t306.length co25, .slice Ao26 t309.length co26, .slice Ao27 t312.length co27] 37 (0, 0)) (by (with_reducible repeat (first | refine zk ?_ _ | refine zm ?_ | refine zh ?_ _)); exact BK316.out)) : gb316 ≠ gb338)); have n22_ := za.mk ((by rw [hg]; exact Nat.ne_of_gt (qg (g := gb316) (o := .cells #[.int .i64 t298, .slice Ao23 t299.length co23, .int .i64 t302, .slice Ao24 t303.length co24, .slice Ao25 t306.length co25, .slice Ao26 t309.length co26, .slice Ao27 t312.length co27] 37 (0, 0)) (by (with_reducible repeat (first | refine zk ?_ _ | refine zm ?_ | refine zh ?_ _)); exact BK316.out)) : gb338 ≠ gb316)); clear HO293; clear HO297; clear HO301; clear HO305; clear HO308; clear HO311; clear HO314; clear HO319; clear HO323; clear HO327; clear HO330; clear HO333; clear HO336; clear BK294; clear BK316; clear HB; have HO293 := n0_; have HO297 := n1_; have HO301 := n2_; have HO305 := n3_; have HO308 := n4_; have HO311 := n5_; have HO314 := n6_; have HO319 := n7_; have HO323 := n8_; have HO327 := n9_; have HO330 := n10_; have HO333 := n11_; have HO336 := n12_; have BK294 := n13_; have BK316 := n14_; have HB := n15_; have BK338 := n16_; have GW338 := n17_; have GE338 := n18_; have NB294_338 := n19_; have NB338_294 := n20_; have NB316_338 := n21_; have NB338_316 := n22_; clear n0_ n1_ n2_ n3_ n4_ n5_ n6_ n7_ n8_ n9_ n10_ n11_ n12_ n13_ n14_ n15_ n16_ n17_ n18_ n19_ n20_ n21_ n22_; clear hb hbox hg; have hnb34 := NB338_294.out; have hnc34 := NB294_338.out; have hnb35 := NB338_316.out; have hnc35 := NB316_338.out; have hcz36_0 : w33.cell? ⟨gb338, 0, none⟩ = some (.int .i64 0) := (ze BK338.out 0).trans rfl; have hcz36_1 : w33.cell? ⟨gb338, 1, none⟩ = some (.slice none 0 0) := (ze BK338.out 1).trans rfl; have hcz36_2 : w33.cell? ⟨gb338, 2, none⟩ = some (.int .i64 0) := (ze BK338.out 2).trans rfl; have hcz36_3 : w33.cell? ⟨gb338, 3, none⟩ = some (.slice none 0 0) := (ze BK338.out 3).trans rfl; have hcz36_4 : w33.cell? ⟨gb338, 4, none⟩ = some (.slice none 0 0) := (ze BK338.out 4).trans rfl; have hcz36_5 : w33.cell? ⟨gb338, 5, none⟩ = some (.slice none 0 0) := (ze BK338.out 5).trans rfl; have hcz36_6 : w33.cell? ⟨gb338, 6, none⟩ = some (.slice none 0 0) := (ze BK338.out 6).trans rfl; have hfz36_0 := zl BK338.out 0; have hfz36_1 := zl BK338.out 1; have hfz36_2 := zl BK338.out 2; have hfz36_3 := zl BK338.out 3; have hfz36_4 := zl BK338.out 4; have hfz36_5 := zl BK338.out 5; have hfz36_6 := zl BK338.out 6; obtain ⟨Ao37, co37, eo37⟩ := Kd.qC HO323.out; subst eo37; obtain ⟨Ao38, co38, eo38⟩ := Kd.qC HO327.out; subst eo38; obtain ⟨Ao39, co39, eo39⟩ := Kd.qC HO330.out; subst eo39; obtain ⟨Ao40, co40, eo40⟩ := Kd.qC HO333.out; subst eo40; obtain ⟨Ao41, co41, eo41⟩ := Kd.qC HO336.out; subst eo41; have hcz42_0 : w33.cell? ⟨gb316, 0, none⟩ = some (.int .i64 t298) := (ze BK316.out 0).trans rfl; have hcz42_1 : w33.cell? ⟨gb316, 1, none⟩ = some (.slice Ao23 t299.length co23) := (ze BK316.out 1).trans rfl; have hcz42_2 : w33.cell? ⟨gb316, 2, none⟩ = some (.int .i64 t302) := (ze BK316.out 2).trans rfl; have hcz42_3 : w33.cell? ⟨gb316, 3, none⟩ = some (.slice Ao24 t303.length co24) := (ze BK316.out 3).trans rfl; have hcz42_4 : w33.cell? ⟨gb316, 4, none⟩ = some (.slice Ao25 t306.length co25) := (ze BK316.out 4).trans rfl; have hcz42_5 : w33.cell? ⟨gb316, 5, none⟩ = some (.slice Ao26 t309.length co26) := (ze BK316.out 5).trans rfl; have hcz42_6 : w33.cell? ⟨gb316, 6, none⟩ = some (.slice Ao27 t312.length co27) := (ze BK316.out 6).trans rfl; have hfz42_0 := zl BK316.out 0; have hfz42_1 := zl BK316.out 1; have hfz42_2 := zl BK316.out 2; have hfz42_3 := zl BK316.out 3; have hfz42_4 := zl BK316.out 4; have hfz42_5 := zl BK316.out 5; have hfz42_6 := zl BK316.out 6) | (go_at_call 26; (with_reducible refine (qi.calls k t298 _ _ t299 t302 _ _ t303 _ _ t306 _ _ t309 _ _ t312 t339 _ ?side1 ?side2 ?side3 ?side4 ?side5 ?side6 ?side7 ?side8 ?side9 ?side10 A4.out).mono ?_); (case side1 => refine (Kd.zO (e := 66) (base := w.heap.size) (ok := fun k_ => ((True ∧ some k_ ≠ (.slice Ao13 y291.length co13 : Value).ownBlock) ∧ some k_ ≠ (.slice Ao37 t321.length co37 : Value).ownBlock)) (n := t299.length) (c := co23) ?_).2.2; exact (by (with_reducible repeat (first | apply Kd.zn | apply Kd.zq | apply Kd.zu)); exact (Kd.zR (Kd.zz (p := ⟨gb338, 6, none⟩) (Kd.zz (p := ⟨gb338, 5, none⟩) (Kd.zz (p := ⟨gb338, 4, none⟩) (Kd.zz (p := ⟨gb338, 3, none⟩) (Kd.zz (p := ⟨gb338, 2, none⟩) (Kd.zz (p := ⟨gb338, 1, none⟩) (Kd.zz (p := ⟨gb338, 0, none⟩) (Kd.qw HO301.out BK338.out (by decide)) (fun _ hk => hk.2) (.int .i64 t320)) (fun _ hk => hk.2) (.slice Ao37 t321.length co37)) (fun _ hk => hk.2) (.int .i64 t324)) (fun _ hk => hk.2) (.slice Ao38 t325.length co38)) (fun _ hk => hk.2) (.slice Ao39 t328.length co39)) (fun _ hk => hk.2) (.slice Ao40 t331.length co40)) (fun _ hk => hk.2) (.slice Ao41 t334.length co41)) (fun _ h_ => h_.1)))); (case side2 => exact (Kd.zO HO301.out).2.1); (case side3 => refine (Kd.zO (e := 3) (base := w.heap.size) (ok := fun k_ => ((((some k_ ≠ (.slice Ao25 t306.length co25 : Value).ownBlock ∧ some k_ ≠ (.slice Ao18 y295.length co18 : Value).ownBlock) ∧ some k_ ≠ (.slice Ao31 y317.length co31 : Value).ownBlock) ∧ some k_ ≠ (.slice Ao38 t325.length co38 : Value).ownBlock) ∧ some k_ ≠ (.slice Ao39 t328.length co39 : Value).ownBlock)) (n := t303.length) (c := co24) ?_).2.2; exact (by (with_reducible repeat (first | apply Kd.zn | apply Kd.zq | apply Kd.zu)); exact (Kd.zR (Kd.zz (p := ⟨gb338, 6, none⟩) (Kd.zz (p := ⟨gb338, 5, none⟩) (Kd.zz (p := ⟨gb338, 4, none⟩) (Kd.zz (p := ⟨gb338, 3, none⟩) (Kd.zz (p := ⟨gb338, 2, none⟩) (Kd.zz (p := ⟨gb338, 1, none⟩) (Kd.zz (p := ⟨gb338, 0, none⟩) (Kd.qw HO305.out BK338.out (by decide)) (fun _ hk => hk.2) (.int .i64 t320)) (fun _ hk => hk.2) (.slice Ao37 t321.length co37)) (fun _ hk => hk.2) (.int .i64 t324)) (fun _ hk => hk.2) (.slice Ao38 t325.length co38)) (fun _ hk => hk.2) (.slice Ao39 t328.length co39)) (fun _ hk => hk.2) (.slice Ao40 t331.length co40)) (fun _ hk => hk.2) (.slice Ao41 t334.length co41)) (fun _ h_ => h_.1)))); (case side4 => exact (Kd.zO HO305.out).2.1); (case side5 => refine (Kd.zO (e := 3) (base := w.heap.size) (ok := fun k_ => ((((some k_ ≠ (.slice Ao24 t303.length co24 : Value).ownBlock ∧ some k_ ≠ (.slice Ao18 y295.length co18 : Value).ownBlock) ∧ some k_ ≠ (.slice Ao31 y317.length co31 : Value).ownBlock) ∧ some k_ ≠ (.slice Ao38 t325.length co38 : Value).ownBlock) ∧ some k_ ≠ (.slice Ao39 t328.length co39 : Value).ownBlock)) (n := t306.length) (c := co25) ?_).2.2; exact (by (with_reducible repeat (first | apply Kd.zn | apply Kd.zq | apply Kd.zu)); exact (Kd.zR (Kd.zz (p := ⟨gb338, 6, none⟩) (Kd.zz (p := ⟨gb338, 5, none⟩) (Kd.zz (p := ⟨gb338, 4, none⟩) (Kd.zz (p := ⟨gb338, 3, none⟩) (Kd.zz (p := ⟨gb338, 2, none⟩) (Kd.zz (p := ⟨gb338, 1, none⟩) (Kd.zz (p := ⟨gb338, 0, none⟩) (Kd.qw HO308.out BK338.out (by decide)) (fun _ hk => hk.2) (.int .i64 t320)) (fun _ hk => hk.2) (.slice Ao37 t321.length co37)) (fun _ hk => hk.2) (.int .i64 t324)) (fun _ hk => hk.2) (.slice Ao38 t325.length co38)) (fun _ hk => hk.2) (.slice Ao39 t328.length co39)) (fun _ hk => hk.2) (.slice Ao40 t331.length co40)) (fun _ hk => hk.2) (.slice Ao41 t334.length co41)) (fun _ h_ => h_.1)))); (case side6 => exact (Kd.zO HO308.out).2.1); (case side7 => refine (Kd.zO (e := 22) (base := w.heap.size) (ok := fun k_ => ((((((some k_ ≠ (.slice Ao24 t303.length co24 : Value).ownBlock ∧ some k_ ≠ (.slice Ao25 t306.length co25 : Value).ownBlock) ∧ some k_ ≠ (.slice Ao18 y295.length co18 : Value).ownBlock) ∧ some k_ ≠ (.slice Ao31 y317.length co31 : Value).ownBlock) ∧ some k_ ≠ (.slice Ao38 t325.length co38 : Value).ownBlock) ∧ some k_ ≠ (.slice Ao39 t328.length co39 : Value).ownBlock) ∧ some k_ ≠ (.slice Ao40 t331.length co40 : Value).ownBlock)) (n := t309.length) (c := co26) ?_).2.2; exact (by (with_reducible repeat (first | apply Kd.zn | apply Kd.zq | apply Kd.zu)); exact (Kd.zR (Kd.zz (p := ⟨gb338, 6, none⟩) (Kd.zz (p := ⟨gb338, 5, none⟩) (Kd.zz (p := ⟨gb338, 4, none⟩) (Kd.zz (p := ⟨gb338, 3, none⟩) (Kd.zz (p := ⟨gb338, 2, none⟩) (Kd.zz (p := ⟨gb338, 1, none⟩) (Kd.zz (p := ⟨gb338, 0, none⟩) (Kd.qw HO311.out BK338.out (by decide)) (fun _ hk => hk.2) (.int .i64 t320)) (fun _ hk => hk.2) (.slice Ao37 t321.length co37)) (fun _ hk => hk.2) (.int .i64 t324)) (fun _ hk => hk.2) (.slice Ao38 t325.length co38)) (fun _ hk => hk.2) (.slice Ao39 t328.length co39)) (fun _ hk => hk.2) (.slice Ao40 t331.length co40)) (fun _ hk => hk.2) (.slice Ao41 t334.length co41)) (fun _ h_ => h_.1)))); (case side8 => exact (Kd.zO HO311.out).2.1); (case side9 => refine (Kd.zO (e := 41) (base := w.heap.size) (ok := fun k_ => (True ∧ some k_ ≠ (.slice Ao41 t334.length co41 : Value).ownBlock)) (n := t312.length) (c := co27) ?_).2.2; exact (by (with_reducible repeat (first | apply Kd.zn | apply Kd.zq | apply Kd.zu)); exact (Kd.zR (Kd.zz (p := ⟨gb338, 6, none⟩) (Kd.zz (p := ⟨gb338, 5, none⟩) (Kd.zz (p := ⟨gb338, 4, none⟩) (Kd.zz (p := ⟨gb338, 3, none⟩) (Kd.zz (p := ⟨gb338, 2, none⟩) (Kd.zz (p := ⟨gb338, 1, none⟩) (Kd.zz (p := ⟨gb338, 0, none⟩) (Kd.qw HO314.out BK338.out (by decide)) (fun _ hk => hk.2) (.int .i64 t320)) (fun _ hk => hk.2) (.slice Ao37 t321.length co37)) (fun _ hk => hk.2) (.int .i64 t324)) (fun _ hk => hk.2) (.slice Ao38 t325.length co38)) (fun _ hk => hk.2) (.slice Ao39 t328.length co39)) (fun _ hk => hk.2) (.slice Ao40 t331.length co40)) (fun _ hk => hk.2) (.slice Ao41 t334.length co41)) (fun _ h_ => h_.1)))); (case side10 => exact (Kd.zO HO314.out).2.1); rintro e w43 ⟨v340, rfl, ho0, hb⟩; have n0_ := za.mk (Kd.zL (by (with_reducible repeat (first | apply Kd.zn | apply Kd.zq | apply Kd.zu)); exact (Kd.zR (Kd.zz (p := ⟨gb338, 6, none⟩) (Kd.zz (p := ⟨gb338, 5, none⟩) (Kd.zz (p := ⟨gb338, 4, none⟩) (Kd.zz (p := ⟨gb338, 3, none⟩) (Kd.zz (p := ⟨gb338, 2, none⟩) (Kd.zz (p := ⟨gb338, 1, none⟩) (Kd.zz (p := ⟨gb338, 0, none⟩) (Kd.qw HO293.out BK338.out (by decide)) (fun _ hk => hk.2) (.int .i64 t320)) (fun _ hk => hk.2) (.slice Ao37 t321.length co37)) (fun _ hk => hk.2) (.int .i64 t324)) (fun _ hk => hk.2) (.slice Ao38 t325.length co38)) (fun _ hk => hk.2) (.slice Ao39 t328.length co39)) (fun _ hk => hk.2) (.slice Ao40 t331.length co40)) (fun _ hk => hk.2) (.slice Ao41 t334.length co41)) (fun _ h_ => h_.1))) hb); have n1_ := za.mk (Kd.qG (by (with_reducible repeat (first | apply Kd.zn | apply Kd.zq | apply Kd.zu)); exact (Kd.zR (Kd.zz (p := ⟨gb338, 6, none⟩) (Kd.zz (p := ⟨gb338, 5, none⟩) (Kd.zz (p := ⟨gb338, 4, none⟩) (Kd.zz (p := ⟨gb338, 3, none⟩) (Kd.zz (p := ⟨gb338, 2, none⟩) (Kd.zz (p := ⟨gb338, 1, none⟩) (Kd.zz (p := ⟨gb338, 0, none⟩) (Kd.qw HO297.out BK338.out (by decide)) (fun _ hk => hk.2) (.int .i64 t320)) (fun _ hk => hk.2) (.slice Ao37 t321.length co37)) (fun _ hk => hk.2) (.int .i64 t324)) (fun _ hk => hk.2) (.slice Ao38 t325.length co38)) (fun _ hk => hk.2) (.slice Ao39 t328.length co39)) (fun _ hk => hk.2) (.slice Ao40 t331.length co40)) (fun _ hk => hk.2) (.slice Ao41 t334.length co41)) (fun _ h_ => h_.1))) (Kd.qL ho0) hb); have n2_ := za.mk (Kd.zL (by (with_reducible repeat (first | apply Kd.zn | apply Kd.zq | apply Kd.zu)); exact (Kd.zR (Kd.zz (p := ⟨gb338, 6, none⟩) (Kd.zz (p := ⟨gb338, 5, none⟩) (Kd.zz (p := ⟨gb338, 4, none⟩) (Kd.zz (p := ⟨gb338, 3, none⟩) (Kd.zz (p := ⟨gb338, 2, none⟩) (Kd.zz (p := ⟨gb338, 1, none⟩) (Kd.zz (p := ⟨gb338, 0, none⟩) (Kd.qw HO301.out BK338.out (by decide)) (fun _ hk => hk.2) (.int .i64 t320)) (fun _ hk => hk.2) (.slice Ao37 t321.length co37)) (fun _ hk => hk.2) (.int .i64 t324)) (fun _ hk => hk.2) (.slice Ao38 t325.length co38)) (fun _ hk => hk.2) (.slice Ao39 t328.length co39)) (fun _ hk => hk.2) (.slice Ao40 t331.length co40)) (fun _ hk => hk.2) (.slice Ao41 t334.length co41)) (fun _ h_ => h_.1))) hb); have n3_ := za.mk (Kd.qG (by (with_reducible repeat (first | apply Kd.zn | apply Kd.zq | apply Kd.zu)); exact (Kd.zR (Kd.zz (p := ⟨gb338, 6, none⟩) (Kd.zz (p := ⟨gb338, 5, none⟩) (Kd.zz (p := ⟨gb338, 4, none⟩) (Kd.zz (p := ⟨gb338, 3, none⟩) (Kd.zz (p := ⟨gb338, 2, none⟩) (Kd.zz (p := ⟨gb338, 1, none⟩) (Kd.zz (p := ⟨gb338, 0, none⟩) (Kd.qw HO305.out BK338.out (by decide)) (fun _ hk => hk.2) (.int .i64 t320)) (fun _ hk => hk.2) (.slice Ao37 t321.length co37)) (fun _ hk => hk.2) (.int .i64 t324)) (fun _ hk => hk.2) (.slice Ao38 t325.length co38)) (fun _ hk => hk.2) (.slice Ao39 t328.length co39)) (fun _ hk => hk.2) (.slice Ao40 t331.length co40)) (fun _ hk => hk.2) (.slice Ao41 t334.length co41)) (fun _ h_ => h_.1))) (Kd.qL ho0) hb); have n4_ := za.mk (Kd.qG (by (with_reducible repeat (first | apply Kd.zn | apply Kd.zq | apply Kd.zu)); exact (Kd.zR (Kd.zz (p := ⟨gb338, 6, none⟩) (Kd.zz (p := ⟨gb338, 5, none⟩) (Kd.zz (p := ⟨gb338, 4, none⟩) (Kd.zz (p := ⟨gb338, 3, none⟩) (Kd.zz (p := ⟨gb338, 2, none⟩) (Kd.zz (p := ⟨gb338, 1, none⟩) (Kd.zz (p := ⟨gb338, 0, none⟩) (Kd.qw HO308.out BK338.out (by decide)) (fun _ hk => hk.2) (.int .i64 t320)) (fun _ hk => hk.2) (.slice Ao37 t321.length co37)) (fun _ hk => hk.2) (.int .i64 t324)) (fun _ hk => hk.2) (.slice Ao38 t325.length co38)) (fun _ hk => hk.2) (.slice Ao39 t328.length co39)) (fun _ hk => hk.2) (.slice Ao40 t331.length co40)) (fun _ hk => hk.2) (.slice Ao41 t334.length co41)) (fun _ h_ => h_.1))) (Kd.qL ho0) hb); have n5_ := za.mk (Kd.qG (by (with_reducible repeat (first | apply Kd.zn | apply Kd.zq | apply Kd.zu)); exact (Kd.zR (Kd.zz (p := ⟨gb338, 6, none⟩) (Kd.zz (p := ⟨gb338, 5, none⟩) (Kd.zz (p := ⟨gb338, 4, none⟩) (Kd.zz (p := ⟨gb338, 3, none⟩) (Kd.zz (p := ⟨gb338, 2, none⟩) (Kd.zz (p := ⟨gb338, 1, none⟩) (Kd.zz (p := ⟨gb338, 0, none⟩) (Kd.qw HO311.out BK338.out (by decide)) (fun _ hk => hk.2) (.int .i64 t320)) (fun _ hk => hk.2) (.slice Ao37 t321.length co37)) (fun _ hk => hk.2) (.int .i64 t324)) (fun _ hk => hk.2) (.slice Ao38 t325.length co38)) (fun _ hk => hk.2) (.slice Ao39 t328.length co39)) (fun _ hk => hk.2) (.slice Ao40 t331.length co40)) (fun _ hk => hk.2) (.slice Ao41 t334.length co41)) (fun _ h_ => h_.1))) (Kd.qL ho0) hb); have n6_ := za.mk (Kd.zL (by (with_reducible repeat (first | apply Kd.zn | apply Kd.zq | apply Kd.zu)); exact (Kd.zR (Kd.zz (p := ⟨gb338, 6, none⟩) (Kd.zz (p := ⟨gb338, 5, none⟩) (Kd.zz (p := ⟨gb338, 4, none⟩) (Kd.zz (p := ⟨gb338, 3, none⟩) (Kd.zz (p := ⟨gb338, 2, none⟩) (Kd.zz (p := ⟨gb338, 1, none⟩) (Kd.zz (p := ⟨gb338, 0, none⟩) (Kd.qw HO314.out BK338.out (by decide)) (fun _ hk => hk.2) (.int .i64 t320)) (fun _ hk => hk.2) (.slice Ao37 t321.length co37)) (fun _ hk => hk.2) (.int .i64 t324)) (fun _ hk => hk.2) (.slice Ao38 t325.length co38)) (fun _ hk => hk.2) (.slice Ao39 t328.length co39)) (fun _ hk => hk.2) (.slice Ao40 t331.length co40)) (fun _ hk => hk.2) (.slice Ao41 t334.length co41)) (fun _ h_ => h_.1))) hb); have n7_ := za.mk (Kd.qG (by (with_reducible repeat (first | apply Kd.zn | apply Kd.zq | apply Kd.zu)); exact (Kd.zR (Kd.zz (p := ⟨gb338, 6, none⟩) (Kd.zz (p := ⟨gb338, 5, none⟩) (Kd.zz (p := ⟨gb338, 4, none⟩) (Kd.zz (p := ⟨gb338, 3, none⟩) (Kd.zz (p := ⟨gb338, 2, none⟩) (Kd.zz (p := ⟨gb338, 1, none⟩) (Kd.zz (p := ⟨gb338, 0, none⟩) (Kd.qw HO319.out BK338.out (by decide)) (fun _ hk => hk.2) (.int .i64 t320)) (fun _ hk => hk.2) (.slice Ao37 t321.length co37)) (fun _ hk => hk.2) (.int .i64 t324)) (fun _ hk => hk.2) (.slice Ao38 t325.length co38)) (fun _ hk => hk.2) (.slice Ao39 t328.length co39)) (fun _ hk => hk.2) (.slice Ao40 t331.length co40)) (fun _ hk => hk.2) (.slice Ao41 t334.length co41)) (fun _ h_ => h_.1))) (Kd.qL ho0) hb); have n8_ := za.mk (Kd.zL (by (with_reducible repeat (first | apply Kd.zn | apply Kd.zq | apply Kd.zu)); exact (Kd.zR (Kd.zz (p := ⟨gb338, 6, none⟩) (Kd.zz (p := ⟨gb338, 5, none⟩) (Kd.zz (p := ⟨gb338, 4, none⟩) (Kd.zz (p := ⟨gb338, 3, none⟩) (Kd.zz (p := ⟨gb338, 2, none⟩) (Kd.zz (p := ⟨gb338, 1, none⟩) (Kd.zz (p := ⟨gb338, 0, none⟩) (Kd.qw HO323.out BK338.out (by decide)) (fun _ hk => hk.2) (.int .i64 t320)) (fun _ hk => hk.2) (.slice Ao37 t321.length co37)) (fun _ hk => hk.2) (.int .i64 t324)) (fun _ hk => hk.2) (.slice Ao38 t325.length co38)) (fun _ hk => hk.2) (.slice Ao39 t328.length co39)) (fun _ hk => hk.2) (.slice Ao40 t331.length co40)) (fun _ hk => hk.2) (.slice Ao41 t334.length co41)) (fun _ h_ => h_.1))) hb); have n9_ := za.mk (Kd.qG (by (with_reducible repeat (first | apply Kd.zn | apply Kd.zq | apply Kd.zu)); exact (Kd.zR (Kd.zz (p := ⟨gb338, 6, none⟩) (Kd.zz (p := ⟨gb338, 5, none⟩) (Kd.zz (p := ⟨gb338, 4, none⟩) (Kd.zz (p := ⟨gb338, 3, none⟩) (Kd.zz (p := ⟨gb338, 2, none⟩) (Kd.zz (p := ⟨gb338, 1, none⟩) (Kd.zz (p := ⟨gb338, 0, none⟩) (Kd.qw HO327.out BK338.out (by decide)) (fun _ hk => hk.2) (.int .i64 t320)) (fun _ hk => hk.2) (.slice Ao37 t321.length co37)) (fun _ hk => hk.2) (.int .i64 t324)) (fun _ hk => hk.2) (.slice Ao38 t325.length co38)) (fun _ hk => hk.2) (.slice Ao39 t328.length co39)) (fun _ hk => hk.2) (.slice Ao40 t331.length co40)) (fun _ hk => hk.2) (.slice Ao41 t334.length co41)) (fun _ h_ => h_.1))) (Kd.qL ho0) hb); have n10_ := za.mk (Kd.qG (by (with_reducible repeat (first | apply Kd.zn | apply Kd.zq | apply Kd.zu)); exact (Kd.zR (Kd.zz (p := ⟨gb338, 6, none⟩) (Kd.zz (p := ⟨gb338, 5, none⟩) (Kd.zz (p := ⟨gb338, 4, none⟩) (Kd.zz (p := ⟨gb338, 3, none⟩) (Kd.zz (p := ⟨gb338, 2, none⟩) (Kd.zz (p := ⟨gb338, 1, none⟩) (Kd.zz (p := ⟨gb338, 0, none⟩) (Kd.qw HO330.out BK338.out (by decide)) (fun _ hk => hk.2) (.int .i64 t320)) (fun _ hk => hk.2) (.slice Ao37 t321.length co37)) (fun _ hk => hk.2) (.int .i64 t324)) (fun _ hk => hk.2) (.slice Ao38 t325.length co38)) (fun _ hk => hk.2) (.slice Ao39 t328.length co39)) (fun _ hk => hk.2) (.slice Ao40 t331.length co40)) (fun _ hk => hk.2) (.slice Ao41 t334.length co41)) (fun _ h_ => h_.1))) (Kd.qL ho0) hb); have n11_ := za.mk (Kd.qG (by (with_reducible repeat (first | apply Kd.zn | apply Kd.zq | apply Kd.zu)); exact (Kd.zR (Kd.zz (p := ⟨gb338, 6, none⟩) (Kd.zz (p := ⟨gb338, 5, none⟩) (Kd.zz (p := ⟨gb338, 4, none⟩) (Kd.zz (p := ⟨gb338, 3, none⟩) (Kd.zz (p := ⟨gb338, 2, none⟩) (Kd.zz (p := ⟨gb338, 1, none⟩) (Kd.zz (p := ⟨gb338, 0, none⟩) (Kd.qw HO333.out BK338.out (by decide)) (fun _ hk => hk.2) (.int .i64 t320)) (fun _ hk => hk.2) (.slice Ao37 t321.length co37)) (fun _ hk => hk.2) (.int .i64 t324)) (fun _ hk => hk.2) (.slice Ao38 t325.length co38)) (fun _ hk => hk.2) (.slice Ao39 t328.length co39)) (fun _ hk => hk.2) (.slice Ao40 t331.length co40)) (fun _ hk => hk.2) (.slice Ao41 t334.length co41)) (fun _ h_ => h_.1))) (Kd.qL ho0) hb); have n12_ := za.mk (Kd.zL (by (with_reducible repeat (first | apply Kd.zn | apply Kd.zq | apply Kd.zu)); exact (Kd.zR (Kd.zz (p := ⟨gb338, 6, none⟩) (Kd.zz (p := ⟨gb338, 5, none⟩) (Kd.zz (p := ⟨gb338, 4, none⟩) (Kd.zz (p := ⟨gb338, 3, none⟩) (Kd.zz (p := ⟨gb338, 2, none⟩) (Kd.zz (p := ⟨gb338, 1, none⟩) (Kd.zz (p := ⟨gb338, 0, none⟩) (Kd.qw HO336.out BK338.out (by decide)) (fun _ hk => hk.2) (.int .i64 t320)) (fun _ hk => hk.2) (.slice Ao37 t321.length co37)) (fun _ hk => hk.2) (.int .i64 t324)) (fun _ hk => hk.2) (.slice Ao38 t325.length co38)) (fun _ hk => hk.2) (.slice Ao39 t328.length co39)) (fun _ hk => hk.2) (.slice Ao40 t331.length co40)) (fun _ hk => hk.2) (.slice Ao41 t334.length co41)) (fun _ h_ => h_.1))) hb); have n13_ := za.mk (Kd.qM (Kd.qN (Kd.qN (Kd.qN (Kd.qN (Kd.qN (Kd.qN ho0 (Kd.R_lt (by (with_reducible repeat (first | apply Kd.zn | apply Kd.zq | apply Kd.zu)); exact (Kd.zR (Kd.zz (p := ⟨gb338, 6, none⟩) (Kd.zz (p := ⟨gb338, 5, none⟩) (Kd.zz (p := ⟨gb338, 4, none⟩) (Kd.zz (p := ⟨gb338, 3, none⟩) (Kd.zz (p := ⟨gb338, 2, none⟩) (Kd.zz (p := ⟨gb338, 1, none⟩) (Kd.zz (p := ⟨gb338, 0, none⟩) (Kd.qw HO297.out BK338.out (by decide)) (fun _ hk => hk.2) (.int .i64 t320)) (fun _ hk => hk.2) (.slice Ao37 t321.length co37)) (fun _ hk => hk.2) (.int .i64 t324)) (fun _ hk => hk.2) (.slice Ao38 t325.length co38)) (fun _ hk => hk.2) (.slice Ao39 t328.length co39)) (fun _ hk => hk.2) (.slice Ao40 t331.length co40)) (fun _ hk => hk.2) (.slice Ao41 t334.length co41)) (fun _ h_ => h_.1))))) (Kd.R_lt (by (with_reducible repeat (first | apply Kd.zn | apply Kd.zq | apply Kd.zu)); exact (Kd.zR (Kd.zz (p := ⟨gb338, 6, none⟩) (Kd.zz (p := ⟨gb338, 5, none⟩) (Kd.zz (p := ⟨gb338, 4, none⟩) (Kd.zz (p := ⟨gb338, 3, none⟩) (Kd.zz (p := ⟨gb338, 2, none⟩) (Kd.zz (p := ⟨gb338, 1, none⟩) (Kd.zz (p := ⟨gb338, 0, none⟩) (Kd.qw HO305.out BK338.out (by decide)) (fun _ hk => hk.2) (.int .i64 t320)) (fun _ hk => hk.2) (.slice Ao37 t321.length co37)) (fun _ hk => hk.2) (.int .i64 t324)) (fun _ hk => hk.2) (.slice Ao38 t325.length co38)) (fun _ hk => hk.2) (.slice Ao39 t328.length co39)) (fun _ hk => hk.2) (.slice Ao40 t331.length co40)) (fun _ hk => hk.2) (.slice Ao41 t334.length co41)) (fun _ h_ => h_.1))))) (Kd.R_lt (by (with_reducible repeat (first | apply Kd.zn | apply Kd.zq | apply Kd.zu)); exact (Kd.zR (Kd.zz (p := ⟨gb338, 6, none⟩) (Kd.zz (p := ⟨gb338, 5, none⟩) (Kd.zz (p := ⟨gb338, 4, none⟩) (Kd.zz (p := ⟨gb338, 3, none⟩) (Kd.zz (p := ⟨gb338, 2, none⟩) (Kd.zz (p := ⟨gb338, 1, none⟩) (Kd.zz (p := ⟨gb338, 0, none⟩) (Kd.qw HO308.out BK338.out (by decide)) (fun _ hk => hk.2) (.int .i64 t320)) (fun _ hk => hk.2) (.slice Ao37 t321.length co37)) (fun _ hk => hk.2) (.int .i64 t324)) (fun _ hk => hk.2) (.slice Ao38 t325.length co38)) (fun _ hk => hk.2) (.slice Ao39 t328.length co39)) (fun _ hk => hk.2) (.slice Ao40 t331.length co40)) (fun _ hk => hk.2) (.slice Ao41 t334.length co41)) (fun _ h_ => h_.1))))) (Kd.R_lt (by (with_reducible repeat (first | apply Kd.zn | apply Kd.zq | apply Kd.zu)); exact (Kd.zR (Kd.zz (p := ⟨gb338, 6, none⟩) (Kd.zz (p := ⟨gb338, 5, none⟩) (Kd.zz (p := ⟨gb338, 4, none⟩) (Kd.zz (p := ⟨gb338, 3, none⟩) (Kd.zz (p := ⟨gb338, 2, none⟩) (Kd.zz (p := ⟨gb338, 1, none⟩) (Kd.zz (p := ⟨gb338, 0, none⟩) (Kd.qw HO319.out BK338.out (by decide)) (fun _ hk => hk.2) (.int .i64 t320)) (fun _ hk => hk.2) (.slice Ao37 t321.length co37)) (fun _ hk => hk.2) (.int .i64 t324)) (fun _ hk => hk.2) (.slice Ao38 t325.length co38)) (fun _ hk => hk.2) (.slice Ao39 t328.length co39)) (fun _ hk => hk.2) (.slice Ao40 t331.length co40)) (fun _ hk => hk.2) (.slice Ao41 t334.length co41)) (fun _ h_ => h_.1))))) (Kd.R_lt (by (with_reducible repeat (first | apply Kd.zn | apply Kd.zq | apply Kd.zu)); exact (Kd.zR (Kd.zz (p := ⟨gb338, 6, none⟩) (Kd.zz (p := ⟨gb338, 5, none⟩) (Kd.zz (p := ⟨gb338, 4, none⟩) (Kd.zz (p := ⟨gb338, 3, none⟩) (Kd.zz (p := ⟨gb338, 2, none⟩) (Kd.zz (p := ⟨gb338, 1, none⟩) (Kd.zz (p := ⟨gb338, 0, none⟩) (Kd.qw HO327.out BK338.out (by decide)) (fun _ hk => hk.2) (.int .i64 t320)) (fun _ hk => hk.2) (.slice Ao37 t321.length co37)) (fun _ hk => hk.2) (.int .i64 t324)) (fun _ hk => hk.2) (.slice Ao38 t325.length co38)) (fun _ hk => hk.2) (.slice Ao39 t328.length co39)) (fun _ hk => hk.2) (.slice Ao40 t331.length co40)) (fun _ hk => hk.2) (.slice Ao41 t334.length co41)) (fun _ h_ => h_.1))))) (Kd.R_lt (by (with_reducible repeat (first | apply Kd.zn | apply Kd.zq | apply Kd.zu)); exact (Kd.zR (Kd.zz (p := ⟨gb338, 6, none⟩) (Kd.zz (p := ⟨gb338, 5, none⟩) (Kd.zz (p := ⟨gb338, 4, none⟩) (Kd.zz (p := ⟨gb338, 3, none⟩) (Kd.zz (p := ⟨gb338, 2, none⟩) (Kd.zz (p := ⟨gb338, 1, none⟩) (Kd.zz (p := ⟨gb338, 0, none⟩) (Kd.qw HO330.out BK338.out (by decide)) (fun _ hk => hk.2) (.int .i64 t320)) (fun _ hk => hk.2) (.slice Ao37 t321.length co37)) (fun _ hk => hk.2) (.int .i64 t324)) (fun _ hk => hk.2) (.slice Ao38 t325.length co38)) (fun _ hk => hk.2) (.slice Ao39 t328.length co39)) (fun _ hk => hk.2) (.slice Ao40 t331.length co40)) (fun _ hk => hk.2) (.slice Ao41 t334.length co41)) (fun _ h_ => h_.1))))) (zB (by repeat (first | (with_reducible first | exact HB.out | apply zf | apply zb | apply zg | refine zi ?_ GE294.out | refine zi ?_ GE316.out | refine zi ?_ GE338.out) | exact HB.out)))); have n14_ := za.mk (zW (g := gb294) (o := .cells #[.int .i64 3, .slice Ao13 y291.length co13] 29 (0, 0)) (by (with_reducible repeat (first | refine zk ?_ _ | refine zm ?_ | refine zh ?_ _)); refine ql ?_ NB294_338.out _; (with_reducible repeat (first | refine zk ?_ _ | refine zm ?_ | refine zh ?_ _)); refine ql ?_ NB294_338.out _; (with_reducible repeat (first | refine zk ?_ _ | refine zm ?_ | refine zh ?_ _)); refine ql ?_ NB294_338.out _; (with_reducible repeat (first | refine zk ?_ _ | refine zm ?_ | refine zh ?_ _)); refine ql ?_ NB294_338.out _; (with_reducible repeat (first | refine zk ?_ _ | refine zm ?_ | refine zh ?_ _)); refine ql ?_ NB294_338.out _; (with_reducible repeat (first | refine zk ?_ _ | refine zm ?_ | refine zh ?_ _)); refine ql ?_ NB294_338.out _; (with_reducible repeat (first | refine zk ?_ _ | refine zm ?_ | refine zh ?_ _)); refine ql ?_ NB294_338.out _; (with_reducible repeat (first | refine zk ?_ _ | refine zm ?_ | refine zh ?_ _)); exact BK294.out) hb); have n15_ := za.mk (zW (g := gb316) (o := .cells #[.int .i64 t298, .slice Ao23 t299.length co23, .int .i64 t302, .slice Ao24 t303.length co24, .slice Ao25 t306.length co25, .slice Ao26 t309.length co26, .slice Ao27 t312.length co27] 37 (0, 0)) (by (with_reducible repeat (first | refine zk ?_ _ | refine zm ?_ | refine zh ?_ _)); refine ql ?_ NB316_338.out _; (with_reducible repeat (first | refine zk ?_ _ | refine zm ?_ | refine zh ?_ _)); refine ql ?_ NB316_338.out _; (with_reducible repeat (first | refine zk ?_ _ | refine zm ?_ | refine zh ?_ _)); refine ql ?_ NB316_338.out _; (with_reducible repeat (first | refine zk ?_ _ | refine zm ?_ | refine zh ?_ _)); refine ql ?_ NB316_338.out _; (with_reducible repeat (first | refine zk ?_ _ | refine zm ?_ | refine zh ?_ _)); refine ql ?_ NB316_338.out _; (with_reducible repeat (first | refine zk ?_ _ | refine zm ?_ | refine zh ?_ _)); refine ql ?_ NB316_338.out _; (with_reducible repeat (first | refine zk ?_ _ | refine zm ?_ | refine zh ?_ _)); refine ql ?_ NB316_338.out _; (with_reducible repeat (first | refine zk ?_ _ | refine zm ?_ | refine zh ?_ _)); exact BK316.out) hb); have n16_ := za.mk (zW (g := gb338) (o := .cells #[.int .i64 t320, .slice Ao37 t321.length co37, .int .i64 t324, .slice Ao38 t325.length co38, .slice Ao39 t328.length co39, .slice Ao40 t331.length co40, .slice Ao41 t334.length co41] 37 (0, 0)) (by (with_reducible repeat (first | refine zk ?_ _ | refine zm ?_ | refine zh ?_ _)); refine zX (cs := #[.int .i64 t320, .slice Ao37 t321.length co37, .int .i64 t324, .slice Ao38 t325.length co38, .slice Ao39 t328.length co39, .slice Ao40 t331.length co40, .slice none 0 0]) ?_ 6 _ rfl; (with_reducible repeat (first | refine zk ?_ _ | refine zm ?_ | refine zh ?_ _)); refine zX (cs := #[.int .i64 t320, .slice Ao37 t321.length co37, .int .i64 t324, .slice Ao38 t325.length co38, .slice Ao39 t328.length co39, .slice none 0 0, .slice none 0 0]) ?_ 5 _ rfl; (with_reducible repeat (first | refine zk ?_ _ | refine zm ?_ | refine zh ?_ _)); refine zX (cs := #[.int .i64 t320, .slice Ao37 t321.length co37, .int .i64 t324, .slice Ao38 t325.length co38, .slice none 0 0, .slice none 0 0, .slice none 0 0]) ?_ 4 _ rfl; (with_reducible repeat (first | refine zk ?_ _ | refine zm ?_ | refine zh ?_ _)); refine zX (cs := #[.int .i64 t320, .slice Ao37 t321.length co37, .int .i64 t324, .slice none 0 0, .slice none 0 0, .slice none 0 0, .slice none 0 0]) ?_ 3 _ rfl; (with_reducible repeat (first | refine zk ?_ _ | refine zm ?_ | refine zh ?_ _)); refine zX (cs := #[.int .i64 t320, .slice Ao37 t321.length co37, .int .i64 0, .slice none 0 0, .slice none 0 0, .slice none 0 0, .slice none 0 0]) ?_ 2 _ rfl; (with_reducible repeat (first | refine zk ?_ _ | refine zm ?_ | refine zh ?_ _)); refine zX (cs := #[.int .i64 t320, .slice none 0 0, .int .i64 0, .slice none 0 0, .slice none 0 0, .slice none 0 0, .slice none 0 0]) ?_ 1 _ rfl; (with_reducible repeat (first | refine zk ?_ _ | refine zm ?_ | refine zh ?_ _)); refine zX (cs := #[.int .i64 0, .slice none 0 0, .int .i64 0, .slice none 0 0, .slice none 0 0, .slice none 0 0, .slice none 0 0]) ?_ 0 _ rfl; (with_reducible repeat (first | refine zk ?_ _ | refine zm ?_ | refine zh ?_ _)); exact BK338.out) hb); have n17_ := za.mk (zT (by repeat (first | (with_reducible first | exact HB.out | apply zf | apply zb | apply zg | refine zi ?_ GE294.out | refine zi ?_ GE316.out | refine zi ?_ GE338.out) | exact HB.out)) hb); clear HO293; clear HO297; clear HO301; clear HO305; clear HO308; clear HO311; clear HO314; clear HO319; clear HO323; clear HO327; clear HO330; clear HO333; clear HO336; clear BK294; clear BK316; clear BK338; clear HB; have HO293 := n0_; have HO297 := n1_; have HO301 := n2_; have HO305 := n3_; have HO308 := n4_; have HO311 := n5_; have HO314 := n6_; have HO319 := n7_; have HO323 := n8_; have HO327 := n9_; have HO330 := n10_; have HO333 := n11_; have HO336 := n12_; have HO341 := n13_; have BK294 := n14_; have BK316 := n15_; have BK338 := n16_; have HB := n17_; clear n0_ n1_ n2_ n3_ n4_ n5_ n6_ n7_ n8_ n9_ n10_ n11_ n12_ n13_ n14_ n15_ n16_ n17_; (try clear hb); (try clear hb2); (try clear hk); (try clear hi); (try clear ho0)) | ((with_reducible refine qJ (N := 29) rfl ?_); (try (refine Qo (by rfl) ?_; dsimp only)); refine Kd.R_lit (Kd.int .i64) _ 3 ?hg (N := 29) ?hd (xs := ([1, 1, 1] : List Int)) (inner := [.int .i64 1, .int .i64 1, .int .i64 1]) (ok := fun _ => True) (okp := fun _ => True) ?hr ?hp (fun _ hk => hk) trivial (Below.refl _ _) (Nat.le_refl _) (by simp) ?_; (case hd => rfl); (case hg => rfl); (case hr => first | (go_simp; done) | (go_simp; rfl)); (case hp => exact (Reps.one (show Kd.M (Kd.int .i64) _ _ _ 1 [.int .i64 1] from rfl) (Reps.one (show Kd.M (Kd.int .i64) _ _ _ 1 [.int .i64 1] from rfl) (Reps.one (show Kd.M (Kd.int .i64) _ _ _ 1 [.int .i64 1] from rfl) (Reps.none _ _))))); intro v343 w44 ho45 hb hg_ hnew_; clear hg_ hnew_; (first | rw [← Ny342.out] at ho45 | (simp only [Int.reduceToNat] at ho45; rw [← Ny342.out] at ho45)); have n0_ := za.mk (Kd.zL (by (with_reducible repeat (first | apply Kd.zn | apply Kd.zq | apply Kd.zu)); exact HO293.out) hb); have n1_ := za.mk (Kd.qG (by (with_reducible repeat (first | apply Kd.zn | apply Kd.zq | apply Kd.zu)); exact HO297.out) (Kd.qL ho45) hb); have n2_ := za.mk (Kd.zL (by (with_reducible repeat (first | apply Kd.zn | apply Kd.zq | apply Kd.zu)); exact HO301.out) hb); have n3_ := za.mk (Kd.qG (by (with_reducible repeat (first | apply Kd.zn | apply Kd.zq | apply Kd.zu)); exact HO305.out) (Kd.qL ho45) hb); have n4_ := za.mk (Kd.qG (by (with_reducible repeat (first | apply Kd.zn | apply Kd.zq | apply Kd.zu)); exact HO308.out) (Kd.qL ho45) hb); have n5_ := za.mk (Kd.qG (by (with_reducible repeat (first | apply Kd.zn | apply Kd.zq | apply Kd.zu)); exact HO311.out) (Kd.qL ho45) hb); have n6_ := za.mk (Kd.zL (by (with_reducible repeat (first | apply Kd.zn | apply Kd.zq | apply Kd.zu)); exact HO314.out) hb); have n7_ := za.mk (Kd.qG (by (with_reducible repeat (first | apply Kd.zn | apply Kd.zq | apply Kd.zu)); exact HO319.out) (Kd.qL ho45) hb); have n8_ := za.mk (Kd.zL (by (with_reducible repeat (first | apply Kd.zn | apply Kd.zq | apply Kd.zu)); exact HO323.out) hb); have n9_ := za.mk (Kd.qG (by (with_reducible repeat (first | apply Kd.zn | apply Kd.zq | apply Kd.zu)); exact HO327.out) (Kd.qL ho45) hb); have n10_ := za.mk (Kd.qG (by (with_reducible repeat (first | apply Kd.zn | apply Kd.zq | apply Kd.zu)); exact HO330.out) (Kd.qL ho45) hb); have n11_ := za.mk (Kd.qG (by (with_reducible repeat (first | apply Kd.zn | apply Kd.zq | apply Kd.zu)); exact HO333.out) (Kd.qL ho45) hb); have n12_ := za.mk (Kd.zL (by (with_reducible repeat (first | apply Kd.zn | apply Kd.zq | apply Kd.zu)); exact HO336.out) hb); have n13_ := za.mk (Kd.qG (by (with_reducible repeat (first | apply Kd.zn | apply Kd.zq | apply Kd.zu)); exact HO341.out) (Kd.qL ho45) hb); have n14_ := za.mk (Kd.qM (Kd.qN (Kd.qN (Kd.qN (Kd.qN (Kd.qN (Kd.qN (Kd.qN ho45 (Kd.R_lt (by (with_reducible repeat (first | apply Kd.zn | apply Kd.zq | apply Kd.zu)); exact HO297.out))) (Kd.R_lt (by (with_reducible repeat (first | apply Kd.zn | apply Kd.zq | apply Kd.zu)); exact HO305.out))) (Kd.R_lt (by (with_reducible repeat (first | apply Kd.zn | apply Kd.zq | apply Kd.zu)); exact HO308.out))) (Kd.R_lt (by (with_reducible repeat (first | apply Kd.zn | apply Kd.zq | apply Kd.zu)); exact HO319.out))) (Kd.R_lt (by (with_reducible repeat (first | apply Kd.zn | apply Kd.zq | apply Kd.zu)); exact HO327.out))) (Kd.R_lt (by (with_reducible repeat (first | apply Kd.zn | apply Kd.zq | apply Kd.zu)); exact HO330.out))) (Kd.R_lt (by (with_reducible repeat (first | apply Kd.zn | apply Kd.zq | apply Kd.zu)); exact HO341.out))) (zB (by repeat (first | (with_reducible first | exact HB.out | apply zf | apply zb | apply zg | refine zi ?_ GE294.out | refine zi ?_ GE316.out | refine zi ?_ GE338.out) | exact HB.out)))); have n15_ := za.mk (zW (g := gb294) (o := .cells #[.int .i64 3, .slice Ao13 y291.length co13] 29 (0, 0)) (by (with_reducible repeat (first | refine zk ?_ _ | refine zm ?_ | refine zh ?_ _)); exact BK294.out) hb); have n16_ := za.mk (zW (g := gb316) (o := .cells #[.int .i64 t298, .slice Ao23 t299.length co23, .int .i64 t302, .slice Ao24 t303.length co24, .slice Ao25 t306.length co25, .slice Ao26 t309.length co26, .slice Ao27 t312.length co27] 37 (0, 0)) (by (with_reducible repeat (first | refine zk ?_ _ | refine zm ?_ | refine zh ?_ _)); exact BK316.out) hb); have n17_ := za.mk (zW (g := gb338) (o := .cells #[.int .i64 t320, .slice Ao37 t321.length co37, .int .i64 t324, .slice Ao38 t325.length co38, .slice Ao39 t328.length co39, .slice Ao40 t331.length co40, .slice Ao41 t334.length co41] 37 (0, 0)) (by (with_reducible repeat (first | refine zk ?_ _ | refine zm ?_ | refine zh ?_ _)); exact BK338.out) hb); have n18_ := za.mk (zT (by repeat (first | (with_reducible first | exact HB.out | apply zf | apply zb | apply zg | refine zi ?_ GE294.out | refine zi ?_ GE316.out | refine zi ?_ GE338.out) | exact HB.out)) hb); clear HO293; clear HO297; clear HO301; clear HO305; clear HO308; clear HO311; clear HO314; clear HO319; clear HO323; clear HO327; clear HO330; clear HO333; clear HO336; clear HO341; clear BK294; clear BK316; clear BK338; clear HB; have HO293 := n0_; have HO297 := n1_; have HO301 := n2_; have HO305 := n3_; have HO308 := n4_; have HO311 := n5_; have HO314 := n6_; have HO319 := n7_; have HO323 := n8_; have HO327 := n9_; have HO330 := n10_; have HO333 := n11_; have HO336 := n12_; have HO341 := n13_; have HO344 := n14_; have BK294 := n15_; have BK316 := n16_; have BK338 := n17_; have HB := n18_; clear n0_ n1_ n2_ n3_ n4_ n5_ n6_ n7_ n8_ n9_ n10_ n11_ n12_ n13_ n14_ n15_ n16_ n17_ n18_; clear hb ho45; obtain ⟨Ao46, co46, eo46⟩ := Kd.qC HO341.out; subst eo46; obtain ⟨Ao47, co47, eo47⟩ := Kd.qC HO344.out; subst eo47) | (go_at_call 25; (with_reducible refine (zM.calls k _ _ t339 _ _ y342 t345 _ ?side1 ?side2 ?side3 ?side4 A5.out).mono ?_); (case side1 => repeat (first | exact (Kd.zO HO341.out).2.2 | (with_reducible refine Kd.qA ?_ _) | (with_reducible refine Kd.qz ?_ _) | (with_reducible refine Kd.qF ?_))); (case side2 => exact (Kd.zO HO341.out).2.1); (case side3 => repeat (first | exact (Kd.zO HO344.out).2.2 | (with_reducible refine Kd.qA ?_ _) | (with_reducible refine Kd.qz ?_ _) | (with_reducible refine Kd.qF ?_))); (case side4 => exact (Kd.zO HO344.out).2.1); rintro e w' ⟨rfl, ⟨nd, rfl⟩⟩; have hcz48_0 : w44.cell? ⟨gb338, 0, none⟩ = some (.int .i64 t320) := (ze BK338.out 0).trans rfl; have hcz48_1 : w44.cell? ⟨gb338, 1, none⟩ = some (.slice Ao37 t321.length co37) := (ze BK338.out 1).trans rfl; have hcz48_2 : w44.cell? ⟨gb338, 2, none⟩ = some (.int .i64 t324) := (ze BK338.out 2).trans rfl; have hcz48_3 : w44.cell? ⟨gb338, 3, none⟩ = some (.slice Ao38 t325.length co38) := (ze BK338.out 3).trans rfl; have hcz48_4 : w44.cell? ⟨gb338, 4, none⟩ = some (.slice Ao39 t328.length co39) := (ze BK338.out 4).trans rfl; have hcz48_5 : w44.cell? ⟨gb338, 5, none⟩ = some (.slice Ao40 t331.length co40) := (ze BK338.out 5).trans rfl; have hcz48_6 : w44.cell? ⟨gb338, 6, none⟩ = some (.slice Ao41 t334.length co41) := (ze BK338.out 6).trans rfl; have hfz48_0 := zl BK338.out 0; have hfz48_1 := zl BK338.out 1; have hfz48_2 := zl BK338.out 2; have hfz48_3 := zl BK338.out 3; have hfz48_4 := zl BK338.out 4; have hfz48_5 := zl BK338.out 5; have hfz48_6 := zl BK338.out 6) | (go_at_call 18; (with_reducible refine (qW.calls k t320 _ _ t321 t324 _ _ t325 _ _ t328 _ _ t331 _ _ t334 t346 _ ?side1 ?side2 ?side3 ?side4 ?side5 ?side6 ?side7 ?side8 ?side9 ?side10 A8.out).mono ?_); (case side1 => repeat (first | exact (Kd.zO HO323.out).2.2 | (with_reducible refine Kd.qA ?_ _) | (with_reducible refine Kd.qz ?_ _) | (with_reducible refine Kd.qF ?_))); (case side2 => exact (Kd.zO HO323.out).2.1); (case side3 => repeat (first | exact (Kd.zO HO327.out).2.2 | (with_reducible refine Kd.qA ?_ _) | (with_reducible refine Kd.qz ?_ _) | (with_reducible refine Kd.qF ?_))); (case side4 => exact (Kd.zO HO327.out).2.1); (case side5 => repeat (first | exact (Kd.zO HO330.out).2.2 | (with_reducible refine Kd.qA ?_ _) | (with_reducible refine Kd.qz ?_ _) | (with_reducible refine Kd.qF ?_))); (case side6 => exact (Kd.zO HO330.out).2.1); (case side7 => repeat (first | exact (Kd.zO HO333.out).2.2 | (with_reducible refine Kd.qA ?_ _) | (with_reducible refine Kd.qz ?_ _) | (with_reducible refine Kd.qF ?_))); (case side8 => exact (Kd.zO HO333.out).2.1); (case side9 => repeat (first | exact (Kd.zO HO336.out).2.2 | (with_reducible refine Kd.qA ?_ _) | (with_reducible refine Kd.qz ?_ _) | (with_reducible refine Kd.qF ?_))); (case side10 => exact (Kd.zO HO336.out).2.1); rintro e w49 ⟨v347, rfl, ho0, hb⟩; have n0_ := za.mk (Kd.zL (by (with_reducible repeat (first | apply Kd.zn | apply Kd.zq | apply Kd.zu)); exact HO293.out) hb); have n1_ := za.mk (Kd.zL (by (with_reducible repeat (first | apply Kd.zn | apply Kd.zq | apply Kd.zu)); exact HO297.out) hb); have n2_ := za.mk (Kd.zL (by (with_reducible repeat (first | apply Kd.zn | apply Kd.zq | apply Kd.zu)); exact HO301.out) hb); have n3_ := za.mk (Kd.zL (by (with_reducible repeat (first | apply Kd.zn | apply Kd.zq | apply Kd.zu)); exact HO305.out) hb); have n4_ := za.mk (Kd.zL (by (with_reducible repeat (first | apply Kd.zn | apply Kd.zq | apply Kd.zu)); exact HO308.out) hb); have n5_ := za.mk (Kd.zL (by (with_reducible repeat (first | apply Kd.zn | apply Kd.zq | apply Kd.zu)); exact HO311.out) hb); have n6_ := za.mk (Kd.zL (by (with_reducible repeat (first | apply Kd.zn | apply Kd.zq | apply Kd.zu)); exact HO314.out) hb); have n7_ := za.mk (Kd.zL (by (with_reducible repeat (first | apply Kd.zn | apply Kd.zq | apply Kd.zu)); exact HO319.out) hb); have n8_ := za.mk (Kd.zL (by (with_reducible repeat (first | apply Kd.zn | apply Kd.zq | apply Kd.zu)); exact HO323.out) hb); have n9_ := za.mk (Kd.zL (by (with_reducible repeat (first | apply Kd.zn | apply Kd.zq | apply Kd.zu)); exact HO327.out) hb); have n10_ := za.mk (Kd.zL (by (with_reducible repeat (first | apply Kd.zn | apply Kd.zq | apply Kd.zu)); exact HO330.out) hb); have n11_ := za.mk (Kd.zL (by (with_reducible repeat (first | apply Kd.zn | apply Kd.zq | apply Kd.zu)); exact HO333.out) hb); have n12_ := za.mk (Kd.zL (by (with_reducible repeat (first | apply Kd.zn | apply Kd.zq | apply Kd.zu)); exact HO336.out) hb); have n13_ := za.mk (Kd.zL (by (with_reducible repeat (first | apply Kd.zn | apply Kd.zq | apply Kd.zu)); exact HO341.out) hb); have n14_ := za.mk (Kd.zL (by (with_reducible repeat (first | apply Kd.zn | apply Kd.zq | apply Kd.zu)); exact HO344.out) hb); have n15_ := za.mk (Kd.qM ho0 (zB (by repeat (first | (with_reducible first | exact HB.out | apply zf | apply zb | apply zg | refine zi ?_ GE294.out | refine zi ?_ GE316.out | refine zi ?_ GE338.out) | exact HB.out)))); have n16_ := za.mk (zW (g := gb294) (o := .cells #[.int .i64 3, .slice Ao13 y291.length co13] 29 (0, 0)) (by (with_reducible repeat (first | refine zk ?_ _ | refine zm ?_ | refine zh ?_ _)); exact BK294.out) hb); have n17_ := za.mk (zW (g := gb316) (o := .cells #[.int .i64 t298, .slice Ao23 t299.length co23, .int .i64 t302, .slice Ao24 t303.length co24, .slice Ao25 t306.length co25, .slice Ao26 t309.length co26, .slice Ao27 t312.length co27] 37 (0, 0)) (by (with_reducible repeat (first | refine zk ?_ _ | refine zm ?_ | refine zh ?_ _)); exact BK316.out) hb); have n18_ := za.mk (zW (g := gb338) (o := .cells #[.int .i64 t320, .slice Ao37 t321.length co37, .int .i64 t324, .slice Ao38 t325.length co38, .slice Ao39 t328.length co39, .slice Ao40 t331.length co40, .slice Ao41 t334.length co41] 37 (0, 0)) (by (with_reducible repeat (first | refine zk ?_ _ | refine zm ?_ | refine zh ?_ _)); exact BK338.out) hb); have n19_ := za.mk (zT (by repeat (first | (with_reducible first | exact HB.out | apply zf | apply zb | apply zg | refine zi ?_ GE294.out | refine zi ?_ GE316.out | refine zi ?_ GE338.out) | exact HB.out)) hb); clear HO293; clear HO297; clear HO301; clear HO305; clear HO308; clear HO311; clear HO314; clear HO319; clear HO323; clear HO327; clear HO330; clear HO333; clear HO336; clear HO341; clear HO344; clear BK294; clear BK316; clear BK338; clear HB; have HO293 := n0_; have HO297 := n1_; have HO301 := n2_; have HO305 := n3_; have HO308 := n4_; have HO311 := n5_; have HO314 := n6_; have HO319 := n7_; have HO323 := n8_; have HO327 := n9_; have HO330 := n10_; have HO333 := n11_; have HO336 := n12_; have HO341 := n13_; have HO344 := n14_; have HO348 := n15_; have BK294 := n16_; have BK316 := n17_; have BK338 := n18_; have HB := n19_; clear n0_ n1_ n2_ n3_ n4_ n5_ n6_ n7_ n8_ n9_ n10_ n11_ n12_ n13_ n14_ n15_ n16_ n17_ n18_ n19_; (try clear hb); (try clear hb2); (try clear hk); (try clear hi); (try clear ho0); obtain ⟨Ao50, co50, eo50⟩ := Kd.qC HO348.out; subst eo50; have hcz51_0 : w49.cell? ⟨gb338, 0, none⟩ = some (.int .i64 t320) := (ze BK338.out 0).trans rfl; have hcz51_1 : w49.cell? ⟨gb338, 1, none⟩ = some (.slice Ao37 t321.length co37) := (ze BK338.out 1).trans rfl; have hcz51_2 : w49.cell? ⟨gb338, 2, none⟩ = some (.int .i64 t324) := (ze BK338.out 2).trans rfl; have hcz51_3 : w49.cell? ⟨gb338, 3, none⟩ = some (.slice Ao38 t325.length co38) := (ze BK338.out 3).trans rfl; have hcz51_4 : w49.cell? ⟨gb338, 4, none⟩ = some (.slice Ao39 t328.length co39) := (ze BK338.out 4).trans rfl; have hcz51_5 : w49.cell? ⟨gb338, 5, none⟩ = some (.slice Ao40 t331.length co40) := (ze BK338.out 5).trans rfl; have hcz51_6 : w49.cell? ⟨gb338, 6, none⟩ = some (.slice Ao41 t334.length co41) := (ze BK338.out 6).trans rfl; have hfz51_0 := zl BK338.out 0; have hfz51_1 := zl BK338.out 1; have hfz51_2 := zl BK338.out 2; have hfz51_3 := zl BK338.out 3; have hfz51_4 := zl BK338.out 4; have hfz51_5 := zl BK338.out 5; have hfz51_6 := zl BK338.out 6) | (go_at_call 28; (with_reducible refine (qP.calls t320 _ _ t321 t324 _ _ t325 _ _ t328 _ _ t331 _ _ t334 t349 _ ?side1 ?side2 ?side3 ?side4 ?side5 ?side6 ?side7 ?side8 ?side9 ?side10 A10.out).mono ?_); (case side1 => repeat (first | exact (Kd.zO HO323.out).2.2 | (with_reducible refine Kd.qA ?_ _) | (with_reducible refine Kd.qz ?_ _) | (with_reducible refine Kd.qF ?_))); (case side2 => exact (Kd.zO HO323.out).2.1); (case side3 => repeat (first | exact (Kd.zO HO327.out).2.2 | (with_reducible refine Kd.qA ?_ _) | (with_reducible refine Kd.qz ?_ _) | (with_reducible refine Kd.qF ?_))); (case side4 => exact (Kd.zO HO327.out).2.1); (case side5 => repeat (first | exact (Kd.zO HO330.out).2.2 | (with_reducible refine Kd.qA ?_ _) | (with_reducible refine Kd.qz ?_ _) | (with_reducible refine Kd.qF ?_))); (case side6 => exact (Kd.zO HO330.out).2.1); (case side7 => repeat (first | exact (Kd.zO HO333.out).2.2 | (with_reducible refine Kd.qA ?_ _) | (with_reducible refine Kd.qz ?_ _) | (with_reducible refine Kd.qF ?_))); (case side8 => exact (Kd.zO HO333.out).2.1); (case side9 => repeat (first | exact (Kd.zO HO336.out).2.2 | (with_reducible refine Kd.qA ?_ _) | (with_reducible refine Kd.qz ?_ _) | (with_reducible refine Kd.qF ?_))); (case side10 => exact (Kd.zO HO336.out).2.1); rintro e w52 ⟨rfl, hb⟩; have n0_ := za.mk (Kd.zL (by (with_reducible repeat (first | apply Kd.zn | apply Kd.zq | apply Kd.zu)); exact HO293.out) hb); have n1_ := za.mk (Kd.zL (by (with_reducible repeat (first | apply Kd.zn | apply Kd.zq | apply Kd.zu)); exact HO297.out) hb); have n2_ := za.mk (Kd.zL (by (with_reducible repeat (first | apply Kd.zn | apply Kd.zq | apply Kd.zu)); exact HO301.out) hb); have n3_ := za.mk (Kd.zL (by (with_reducible repeat (first | apply Kd.zn | apply Kd.zq | apply Kd.zu)); exact HO305.out) hb); have n4_ := za.mk (Kd.zL (by (with_reducible repeat (first | apply Kd.zn | apply Kd.zq | apply Kd.zu)); exact HO308.out) hb); have n5_ := za.mk (Kd.zL (by (with_reducible repeat (first | apply Kd.zn | apply Kd.zq | apply Kd.zu)); exact HO311.out) hb); have n6_ := za.mk (Kd.zL (by (with_reducible repeat (first | apply Kd.zn | apply Kd.zq | apply Kd.zu)); exact HO314.out) hb); have n7_ := za.mk (Kd.zL (by (with_reducible repeat (first | apply Kd.zn | apply Kd.zq | apply Kd.zu)); exact HO319.out) hb); have n8_ := za.mk (Kd.zL (by (with_reducible repeat (first | apply Kd.zn | apply Kd.zq | apply Kd.zu)); exact HO323.out) hb); have n9_ := za.mk (Kd.zL (by (with_reducible repeat (first | apply Kd.zn | apply Kd.zq | apply Kd.zu)); exact HO327.out) hb); have n10_ := za.mk (Kd.zL (by (with_reducible repeat (first | apply Kd.zn | apply Kd.zq | apply Kd.zu)); exact HO330.out) hb); have n11_ := za.mk (Kd.zL (by (with_reducible repeat (first | apply Kd.zn | apply Kd.zq | apply Kd.zu)); exact HO333.out) hb); have n12_ := za.mk (Kd.zL (by (with_reducible repeat (first | apply Kd.zn | apply Kd.zq | apply Kd.zu)); exact HO336.out) hb); have n13_ := za.mk (Kd.zL (by (with_reducible repeat (first | apply Kd.zn | apply Kd.zq | apply Kd.zu)); exact HO341.out) hb); have n14_ := za.mk (Kd.zL (by (with_reducible repeat (first | apply Kd.zn | apply Kd.zq | apply Kd.zu)); exact HO344.out) hb); have n15_ := za.mk (Kd.zL (by (with_reducible repeat (first | apply Kd.zn | apply Kd.zq | apply Kd.zu)); exact HO348.out) hb); have n16_ := za.mk (zW (g := gb294) (o := .cells #[.int .i64 3, .slice Ao13 y291.length co13] 29 (0, 0)) (by (with_reducible repeat (first | refine zk ?_ _ | refine zm ?_ | refine zh ?_ _)); exact BK294.out) hb); have n17_ := za.mk (zW (g := gb316) (o := .cells #[.int .i64 t298, .slice Ao23 t299.length co23, .int .i64 t302, .slice Ao24 t303.length co24, .slice Ao25 t306.length co25, .slice Ao26 t309.length co26, .slice Ao27 t312.length co27] 37 (0, 0)) (by (with_reducible repeat (first | refine zk ?_ _ | refine zm ?_ | refine zh ?_ _)); exact BK316.out) hb); have n18_ := za.mk (zW (g := gb338) (o := .cells #[.int .i64 t320, .slice Ao37 t321.length co37, .int .i64 t324, .slice Ao38 t325.length co38, .slice Ao39 t328.length co39, .slice Ao40 t331.length co40, .slice Ao41 t334.length co41] 37 (0, 0)) (by (with_reducible repeat (first | refine zk ?_ _ | refine zm ?_ | refine zh ?_ _)); exact BK338.out) hb); have n19_ := za.mk (zT (by repeat (first | (with_reducible first | exact HB.out | apply zf | apply zb | apply zg | refine zi ?_ GE294.out | refine zi ?_ GE316.out | refine zi ?_ GE338.out) | exact HB.out)) hb); clear HO293; clear HO297; clear HO301; clear HO305; clear HO308; clear HO311; clear HO314; clear HO319; clear HO323; clear HO327; clear HO330; clear HO333; clear HO336; clear HO341; clear HO344; clear HO348; clear BK294; clear BK316; clear BK338; clear HB; have HO293 := n0_; have HO297 := n1_; have HO301 := n2_; have HO305 := n3_; have HO308 := n4_; have HO311 := n5_; have HO314 := n6_; have HO319 := n7_; have HO323 := n8_; have HO327 := n9_; have HO330 := n10_; have HO333 := n11_; have HO336 := n12_; have HO341 := n13_; have HO344 := n14_; have HO348 := n15_; have BK294 := n16_; have BK316 := n17_; have BK338 := n18_; have HB := n19_; clear n0_ n1_ n2_ n3_ n4_ n5_ n6_ n7_ n8_ n9_ n10_ n11_ n12_ n13_ n14_ n15_ n16_ n17_ n18_ n19_; (try clear hb); (try clear hb2); (try clear hk); (try clear hi)))
     go_ret
     exact ⟨by first | rfl | (simp [zQ, zP] <;> rfl) | (simp [*, zQ, zP] <;> rfl), by repeat (first | (with_reducible first | exact HB.out | apply zf | apply zb | apply zg | refine zi ?_ GE294.out | refine zi ?_ GE316.out | refine zi ?_ GE338.out) | exact HB.out)⟩
    ·rw [if_neg c9] at H
     exact absurd ((Option.some.inj H).trans HR.out) (by decide)
   ·rw [if_neg c7] at H
    exact absurd ((Option.some.inj H).trans HR.out) (by decide)
  ·rw [if_neg c6] at H
   exact absurd ((Option.some.inj H).trans HR.out) (by decide)
 ·rw [if_neg c3] at H
  exact absurd ((Option.some.inj H).trans HR.out) (by decide)
def zt (w0 W : World) (g : Nat) (f0 : List Int) (f1 : Int) : Prop := ∃ A0 c0, W.heap[g]? = some (.cells #[.slice A0 f0.length c0, .int .i64 f1] 68 (0, 0)) ∧ w0.heap.size ≤ g ∧ Kd.C (Kd.int .i64) w0 A0 f0.length f0
theorem zt.grown {w0 W : World} {g : Nat} {f0 : List Int} {f1 : Int} {W1 : World} {row : Option Nat} (h : zt w0 W g f0 f1) (hw : W.grownBy W1 row) (hne : some g ≠ row) : zt w0 W1 g f0 f1 := by
 obtain ⟨A0, c0, hb, hg, hr0⟩ := h
 exact ⟨A0, c0, Zp hb hw hne, hg, hr0⟩
theorem zt.kept {w0 W : World} {g : Nat} {f0 : List Int} {f1 : Int} {W1 : World} {S : Nat → Prop} (h : zt w0 W g f0 f1) (hk : Kept W W1 S) (hne : ¬ S g) : zt w0 W1 g f0 f1 := by
 obtain ⟨A0, c0, hb, hg, hr0⟩ := h
 exact ⟨A0, c0, blk_kept hb hk hne, hg, hr0⟩
theorem zt.below {w0 W : World} {g : Nat} {f0 : List Int} {f1 : Int} {W1 : World} (h : zt w0 W g f0 f1) (hw : Below W.heap.size W W1) : zt w0 W1 g f0 f1 := h.grown (grown_of_below hw none) (by simp)
theorem zt.alloc {w0 W : World} {g : Nat} {f0 : List Int} {f1 : Int} (h : zt w0 W g f0 f1) (o : Obj) : zt w0 (W.alloc o) g f0 f1 := h.below (zf (Below.refl _ _) o)
theorem zt.drewN {w0 W : World} {g : Nat} {f0 : List Int} {f1 : Int} (h : zt w0 W g f0 f1) (m : Nat) : zt w0 (W.drewN m) g f0 f1 := h
theorem zt.drew {w0 W : World} {g : Nat} {f0 : List Int} {f1 : Int} (h : zt w0 W g f0 f1) : zt w0 W.drew g f0 f1 := h
theorem zt.at_ {w0 W : World} {g : Nat} {f0 : List Int} {f1 : Int} {w' : World} {m : Nat} (hq : W.drewN m = w') (h : zt w0 W g f0 f1) : zt w0 w' g f0 f1 := by subst hq; exact zt.drewN h m
theorem zt.apart {w0 W : World} {g : Nat} {f0 : List Int} {f1 : Int} {α : Type} {d : Kd α} {e : Nat} {base : Nat} {ok : Nat → Prop} {v : Value} {xs : List α} (h : zt w0 W g f0 f1) (ho : d.R e W base ok v xs) (ht : ∀ q, q ∈ e :: d.E → q ≠ 68) : d.R e W base (fun k => ok k ∧ k ≠ g) v xs := by
 obtain ⟨A0, c0, hb, hg, hr0⟩ := h
 exact Kd.qw ho hb ht
theorem zt.own_ne {w0 W : World} {g : Nat} {f0 : List Int} {f1 : Int} {α : Type} {d : Kd α} {e : Nat} {base : Nat} {ok : Nat → Prop} {v : Value} {xs : List α} (h : zt w0 W g f0 f1) (ho : d.R e W base ok v xs) (ht : e ≠ 68) : some g ≠ v.ownBlock := by
 obtain ⟨A0, c0, hb, hg, hr0⟩ := h
 exact Kd.R_ne ho hb ht
theorem zt.lt {w0 W : World} {g : Nat} {f0 : List Int} {f1 : Int} (h : zt w0 W g f0 f1) : g < W.heap.size := by
 obtain ⟨A0, c0, hb, hg, hr0⟩ := h
 exact qg hb
theorem zt.ge {w0 W : World} {g : Nat} {f0 : List Int} {f1 : Int} (h : zt w0 W g f0 f1) : w0.heap.size ≤ g := by
 obtain ⟨A0, c0, hb, hg, hr0⟩ := h
 exact hg
theorem zt.far {w0 W : World} {g : Nat} {f0 : List Int} {f1 : Int} {p : Addr} (h : zt w0 W g f0 f1) (hne : g ≠ p.block) (u : Value) : zt w0 (W.setCell p u) g f0 f1 := by
 obtain ⟨A0, c0, hb, hg, hr0⟩ := h
 exact ⟨A0, c0, ql hb hne u, hg, hr0⟩
theorem cellS68_0 {W : World} {g : Nat} {A0 : Option Addr} {c0 : Nat} {f0 : List Int} {f1 : Int} (h : W.heap[g]? = some (.cells #[.slice A0 f0.length c0, .int .i64 f1] 68 (0, 0))) : W.cell? ⟨g, 0, none⟩ = some (.slice A0 f0.length c0) := (ze h 0).trans rfl
theorem cellS68_1 {W : World} {g : Nat} {A0 : Option Addr} {c0 : Nat} {f0 : List Int} {f1 : Int} (h : W.heap[g]? = some (.cells #[.slice A0 f0.length c0, .int .i64 f1] 68 (0, 0))) : W.cell? ⟨g, 1, none⟩ = some (.int .i64 f1) := (ze h 1).trans rfl
theorem zt.qQ {w0 W : World} {g : Nat} {f0 : List Int} {f1 : Int} (h : zt w0 W g f0 f1) (x : Int) : zt w0 (W.setCell ⟨g, 1, none⟩ (.int .i64 x)) g f0 x := by
 obtain ⟨A0, c0, hb, hg, hr0⟩ := h
 exact ⟨A0, c0, by simpa using blk_set hb 1 (.int .i64 x), hg, hr0⟩
def Zl.f (l0 : List Int) : Option (List Int × Int) := some (l0, 0)
set_option maxHeartbeats 8000000 in
set_option maxRecDepth 100000 in
theorem Zl.calls (A0 : Option Addr) (c0 : Nat) (l0 : List Int) (r1 : List Int) (r2 : Int) (w0 w : World) (hB : Below w0.heap.size w0 w) (hr0 : Kd.C (Kd.int .i64) w0 A0 l0.length l0) (hc0 : l0.length ≤ c0) (h : Zl.f l0 = some (r1, r2)) :
  Calls Try.prog 10 #[.slice A0 l0.length c0] w fun e w' => ∃ g_ : Nat, e = .returned (.pointer (some ⟨g_, 0, none⟩)) ∧ zt w0 w' g_ r1 r2 ∧ Below w0.heap.size w0 w' ∧ Below w.heap.size w w' := by
 have hu68 := Try.underlying68
 have HR0 := za.mk hr0
 have HC0 := za.mk hc0
 clear hr0 hc0
 have HBW := za.mk (Below.refl w.heap.size w)
 have HW0 := za.mk hB.size
 have HB := za.mk hB
 clear hB
 have H : (some (l0, 0)) = some (r1, r2) := h
 clear h
 simp only [Option.some.injEq, Prod.mk.injEq] at H
 obtain ⟨rfl, rfl⟩ := H
 go_enter Try.func10, Try.ntmps10
 go_wp2_with (first | ((with_reducible refine qJ (N := 5) rfl ?_); refine qI ?hg (N := 5) ?hd (cs := #[.slice A0 l0.length c0, .int .i64 0]) (t := 68) ?hr ?_; (case hd => rfl); (case hg => rfl); (case hr => first | (go_simp; done) | (go_simp; rfl)); intro gb350 hg w2 hbox hb; have n0_ := za.mk (zT HBW.out hb); have n1_ := za.mk (zT (by repeat (first | (with_reducible first | exact HB.out | apply zf | apply zb | apply zg) | exact HB.out)) hb); have n2_ := za.mk (hbox); have n3_ := za.mk ((by rw [hg]; exact (zB (by repeat (first | (with_reducible first | exact HBW.out | apply zf | apply zb | apply zg) | exact HBW.out))) : w.heap.size ≤ gb350)); have n4_ := za.mk ((Nat.le_trans HW0.out (by rw [hg]; exact (zB (by repeat (first | (with_reducible first | exact HBW.out | apply zf | apply zb | apply zg) | exact HBW.out))) : w.heap.size ≤ gb350) : w0.heap.size ≤ gb350)); clear HBW; clear HB; have HBW := n0_; have HB := n1_; have BK350 := n2_; have GW350 := n3_; have GE350 := n4_; clear n0_ n1_ n2_ n3_ n4_; clear hb hbox hg))
 go_ret
 exact ⟨_, rfl, (show zt w0 _ gb350 l0 0 from ⟨_, _, by (with_reducible repeat (first | refine zk ?_ _ | refine zm ?_ | refine zh ?_ _)); exact BK350.out, GE350.out, HR0.out⟩), by repeat (first | (with_reducible first | exact HB.out | apply zf | apply zb | apply zg | refine zi ?_ GE350.out) | exact HB.out), by repeat (first | (with_reducible first | exact HBW.out | apply zf | apply zb | apply zg | refine zi ?_ GW350.out) | exact HBW.out)⟩
def Ze.f (a0 : Int) (a1 : Int) : Option (Int) := if a1 = 0 then (none) else (some (Int.tmod (wrap64 ((Int.tmod a0 a1) + a1)) a1))
set_option maxHeartbeats 8000000 in
set_option maxRecDepth 100000 in
theorem Ze.calls (a0 : Int) (a1 : Int) (r : Int) (w : World) (h : Ze.f a0 a1 = some r) :
  Calls Try.prog 19 #[.int .i64 a0, .int .i64 a1] w fun e w' => e = .returned (.int .i64 r) ∧ qb w w' := by
 have H : (if a1 = 0 then (none) else (some (Int.tmod (wrap64 ((Int.tmod a0 a1) + a1)) a1))) = some r := h
 clear h
 by_cases c3 : a1 = 0
 ·rw [if_pos c3] at H
  exact absurd H (by simp)
 ·rw [if_neg c3] at H
  have c3b0 : (a1 == 0) = false := beq_eq_false_iff_ne.mpr c3
  have c3b1 : (a1 != 0) = true := bne_iff_ne.mpr c3
  obtain rfl := Option.some.inj H
  go_enter Try.func19, Try.ntmps19
  go_wp2
  go_ret
  exact ⟨by first | rfl | (simp; done) | (simp [*]; done), by repeat (first | exact qb.refl _ | apply qb.step)⟩
def zJ.f (s0_0 : List Int) (s0_1 : Int) (a1 : Int) : Option (Int × Int) := if a1 < 1 then (some (0, s0_1)) else (if s0_1 ≥ (s0_0.length : Int) then (some (0, s0_1)) else (if 0 ≤ s0_1 then (if s0_1 < (s0_0.length : Int) then ((Ze.f (rd s0_0 s0_1) a1).bind fun t352 => (some (t352, wrap64 (s0_1 + 1)))) else (none)) else (none)))
set_option maxHeartbeats 8000000 in
set_option maxRecDepth 100000 in
theorem zJ.calls (g : Nat) (s0_0 : List Int) (s0_1 : Int) (a1 : Int) (r1 : Int) (r2 : Int) (w0 w : World) (hI : zt w0 w g s0_0 s0_1) (hB : Below w0.heap.size w0 w) (h : zJ.f s0_0 s0_1 a1 = some (r1, r2)) :
  Calls Try.prog 29 #[.pointer (some ⟨g, 0, none⟩), .int .i64 a1] w fun e w' => e = .returned (.int .i64 r1) ∧ zt w0 w' g s0_0 r2 ∧ Below w0.heap.size w0 w' ∧ zC w w' g none := by
 have HI0 := za.mk hI
 have HK := za.mk (zC.refl w g none)
 have HL := za.mk hB.size
 clear hI
 have HW0 := za.mk hB.size
 have HB := za.mk hB
 clear hB
 have H : (if a1 < 1 then (some (0, s0_1)) else (if s0_1 ≥ (s0_0.length : Int) then (some (0, s0_1)) else (if 0 ≤ s0_1 then (if s0_1 < (s0_0.length : Int) then ((Ze.f (rd s0_0 s0_1) a1).bind fun t352 => (some (t352, wrap64 (s0_1 + 1)))) else (none)) else (none)))) = some (r1, r2) := h
 clear h
 by_cases c3 : a1 < 1
 ·rw [if_pos c3] at H
  have c3b0 : decide (a1 < 1) = true := decide_eq_true c3
  clear c3
  simp only [Option.some.injEq, Prod.mk.injEq] at H
  obtain ⟨rfl, rfl⟩ := H
  go_enter Try.func29, Try.ntmps29
  go_wp2
  repeat (go_quiet (fail); try go_wp2)
  go_ret
  exact ⟨by first | rfl | (simp [zQ, zP] <;> rfl) | (simp [*, zQ, zP] <;> rfl), by repeat (first | (with_reducible first | exact HI0.out | apply zt.alloc | apply zt.drewN | apply zt.drew | apply zt.qQ) | exact HI0.out), by repeat (first | (with_reducible first | exact HB.out | apply zf | apply zb | apply zg | refine zi ?_ (zt.ge HI0.out)) | exact HB.out), by repeat (first | (with_reducible first | exact HK.out | apply zC.set_ | apply zZ | apply qd | apply zY) | exact HK.out)⟩
 ·rw [if_neg c3] at H
  have c3b0 : decide (a1 < 1) = false := decide_eq_false c3
  clear c3
  by_cases c4 : s0_1 ≥ (s0_0.length : Int)
  ·rw [if_pos c4] at H
   have c4b0 : decide ((s0_0.length : Int) ≤ s0_1) = true := decide_eq_true c4
   clear c4
   simp only [Option.some.injEq, Prod.mk.injEq] at H
   obtain ⟨rfl, rfl⟩ := H
   obtain ⟨ASz5_0, cSz5_0, HGz5, hgz5, HSz5_0⟩ := HI0.out
   have hcz5_0 := cellS68_0 HGz5
   have hcz5_1 := cellS68_1 HGz5
   have hfz5_1 := zl HGz5 1
   clear HGz5 hgz5
   go_enter Try.func29, Try.ntmps29
   go_wp2
   repeat (go_quiet (fail); try go_wp2)
   go_ret
   exact ⟨by first | rfl | (simp [zQ, zP] <;> rfl) | (simp [*, zQ, zP] <;> rfl), by repeat (first | (with_reducible first | exact HI0.out | apply zt.alloc | apply zt.drewN | apply zt.drew | apply zt.qQ) | exact HI0.out), by repeat (first | (with_reducible first | exact HB.out | apply zf | apply zb | apply zg | refine zi ?_ (zt.ge HI0.out)) | exact HB.out), by repeat (first | (with_reducible first | exact HK.out | apply zC.set_ | apply zZ | apply qd | apply zY) | exact HK.out)⟩
  ·rw [if_neg c4] at H
   have c4b0 : decide ((s0_0.length : Int) ≤ s0_1) = false := decide_eq_false c4
   clear c4
   by_cases c6 : 0 ≤ s0_1
   ·rw [if_pos c6] at H
    have c6b0 : decide (0 ≤ s0_1) = true := decide_eq_true c6
    clear c6
    by_cases c7 : s0_1 < (s0_0.length : Int)
    ·rw [if_pos c7] at H
     have c7b0 : decide (s0_1 < (s0_0.length : Int)) = true := decide_eq_true c7
     clear c7
     replace H := Option.bind_eq_some_iff.mp H
     obtain ⟨t352, A80, H⟩ := H
     replace H : (some (t352, wrap64 (s0_1 + 1))) = some (r1, r2) := H
     have A8 := za.mk A80
     clear A80
     simp only [Option.some.injEq, Prod.mk.injEq] at H
     obtain ⟨rfl, rfl⟩ := H
     obtain ⟨ASz9_0, cSz9_0, HGz9, hgz9, HSz9_0⟩ := HI0.out
     have hcz9_0 := cellS68_0 HGz9
     have hcz9_1 := cellS68_1 HGz9
     have hfz9_1 := zl HGz9 1
     clear HGz9 hgz9
     have p351 : 0 ≤ (s0_1 : Int) := of_decide_eq_true (by first | (with_reducible assumption) | assumption)
     have q351 : s0_1 < (s0_0.length : Int) := of_decide_eq_true (by first | (with_reducible assumption) | assumption)
     obtain ⟨ad351, e351, hx351_0⟩ := Kd.qX HSz9_0 s0_1 p351 q351
     cases e351
     replace hx351_0 := pw_cell_below HB.out hx351_0
     replace p351 := eq_true p351
     replace q351 := eq_true q351
     go_enter Try.func29, Try.ntmps29
     go_wp2_with (first | (go_at_call 19; (with_reducible refine (Ze.calls (rd s0_0 s0_1) a1 t352 _ A8.out).mono ?_); rintro e w' ⟨rfl, ⟨nd, rfl⟩⟩; (try first | exact ⟨rfl, _, World.drewN_drewN _ _ _⟩ | exact ⟨rfl, _, Eq.trans (World.drewN_drewN _ _ _) (congrArg (World.drewN _) (Nat.add_assoc _ _ _))⟩)))
     repeat (go_quiet (first | (go_at_call 19; (with_reducible refine (Ze.calls (rd s0_0 s0_1) a1 t352 _ A8.out).mono ?_); rintro e w' ⟨rfl, ⟨nd, rfl⟩⟩; (try first | exact ⟨rfl, _, World.drewN_drewN _ _ _⟩ | exact ⟨rfl, _, Eq.trans (World.drewN_drewN _ _ _) (congrArg (World.drewN _) (Nat.add_assoc _ _ _))⟩))); try go_wp2_with (first | (go_at_call 19; (with_reducible refine (Ze.calls (rd s0_0 s0_1) a1 t352 _ A8.out).mono ?_); rintro e w' ⟨rfl, ⟨nd, rfl⟩⟩; (try first | exact ⟨rfl, _, World.drewN_drewN _ _ _⟩ | exact ⟨rfl, _, Eq.trans (World.drewN_drewN _ _ _) (congrArg (World.drewN _) (Nat.add_assoc _ _ _))⟩))))
     go_ret
     exact ⟨by first | rfl | (simp [zQ, zP] <;> rfl) | (simp [*, zQ, zP] <;> rfl), by repeat (first | (with_reducible first | exact HI0.out | apply zt.alloc | apply zt.drewN | apply zt.drew | apply zt.qQ) | exact HI0.out), by repeat (first | (with_reducible first | exact HB.out | apply zf | apply zb | apply zg | refine zi ?_ (zt.ge HI0.out)) | exact HB.out), by repeat (first | (with_reducible first | exact HK.out | apply zC.set_ | apply zZ | apply qd | apply zY) | exact HK.out)⟩
    ·rw [if_neg c7] at H
     exact absurd H (by simp)
   ·rw [if_neg c6] at H
    exact absurd H (by simp)
end Go.Proofs.Ytebehdjjkpffjaa.QPlans
end
