/- Contracts and lemmas on which the theorem of YtebehdjjkpffjaaRPlansz rests; no condition of their own. -/
import Derived.Test.YtebehdjjkpffjaaRPlanse
section
namespace Go.Proofs.Ytebehdjjkpffjaa.QPlans
open Go.RowKit Go.Proofs.YtebehdjjkpffjaaW.PrintWords Go.Proofs.YtebehdjjkpffjaaW.PrintLast Go.Proofs.YtebehdjjkpffjaaW.PrintMore
attribute [local go_sem] ZT ZW Ql Qm ZI ZH ZV ZR
set_option linter.unusedVariables false
set_option linter.unusedSimpArgs false
mutual
def zw.j0 : Nat → List Int → Int → Int → Option (Int × (List (S66)) × Int)
 | 0, _, _, _ => none
 | k + 1, x1000, x1001, x357000 => (zJ.f x1000 x1001 4).bind fun bt359 => (zw.l0 k (wrap64 (1 + bt359.1)) 0 x1000 bt359.2 x357000 ([] : List (S66)))
def zw.l0 : Nat → Int → Int → List Int → Int → Int → List (S66) → Option (Int × (List (S66)) × Int)
 | 0, _, _, _, _, _, _ => none
 | k + 1, x6, x7, x1000, x1001, x357000, x357001 => if x7 < x357000 then (zw.l1 k x6 x7 (wrap64 (x7 + 1)) x1000 x1001 x357000 x357001) else (some (x357000, x357001, x1001))
def zw.l1 : Nat → Int → Int → Int → List Int → Int → Int → List (S66) → Option (Int × (List (S66)) × Int)
 | 0, _, _, _, _, _, _, _ => none
 | k + 1, x6, x7, x8, x1000, x1001, x357000, x357001 => if x8 < x357000 then ((zJ.f x1000 x1001 5).bind fun bt361 => (if bt361.1 ≥ (wrap64 (5 - x6)) then (if x357001.length < 8796093022208 then (zw.l1 k x6 x7 (wrap64 (x8 + 1)) x1000 bt361.2 x357000 (x357001 ++ [(⟨x7, x8⟩ : S66)])) else (none)) else (zw.l1 k x6 x7 (wrap64 (x8 + 1)) x1000 bt361.2 x357000 x357001))) else (zw.l0 k x6 (wrap64 (x7 + 1)) x1000 x1001 x357000 x357001)
end
def zw.f (k : Nat) (s0_0 : List Int) (s0_1 : Int) (a1 : Int) : Option (Int × (List (S66)) × Int) := (zJ.f s0_0 s0_1 (wrap64 (a1 + 1))).bind fun bt354 => (if bt354.1 < 4 then ((zJ.f s0_0 bt354.2 (wrap64 (a1 + 1))).bind fun bt357 => (zw.j0 k s0_0 bt357.2 (mn a1 (wrap64 (bt354.1 + bt357.1))))) else (zw.j0 k s0_0 bt354.2 bt354.1))
theorem zw.qV : ∀ k, (∀ y0 y1 y2, LeO (zw.j0 k y0 y1 y2) (zw.j0 (k + 1) y0 y1 y2)) ∧ (∀ y0 y1 y2 y3 y4 y5, LeO (zw.l0 k y0 y1 y2 y3 y4 y5) (zw.l0 (k + 1) y0 y1 y2 y3 y4 y5)) ∧ (∀ y0 y1 y2 y3 y4 y5 y6, LeO (zw.l1 k y0 y1 y2 y3 y4 y5 y6) (zw.l1 (k + 1) y0 y1 y2 y3 y4 y5 y6))
 | 0 => ⟨fun _ _ _ r h => by simp [zw.j0] at h, fun _ _ _ _ _ _ r h => by simp [zw.l0] at h, fun _ _ _ _ _ _ _ r h => by simp [zw.l1] at h⟩
 | k + 1 => by
  obtain ⟨ih0, ih1, ih2⟩ := zw.qV k
  refine ⟨?_, ?_, ?_⟩
  ·intro y0 y1 y2
   unfold zw.j0
   repeat' first
   | (with_reducible exact ih0 _ _ _)
   | (with_reducible exact ih1 _ _ _ _ _ _)
   | (with_reducible exact ih2 _ _ _ _ _ _ _)
   | (with_reducible exact LeO.refl _)
   | (with_reducible exact LeO.none _)
   | (with_reducible refine LeO.ite ?_ ?_)
   | (with_reducible refine LeO.bind ?_ (fun _ => ?_))
   | exact ih0 _ _ _
   | exact ih1 _ _ _ _ _ _
   | exact ih2 _ _ _ _ _ _ _
   | exact LeO.none _
   | refine LeO.ite ?_ ?_
   | refine LeO.bind ?_ (fun _ => ?_)
  ·intro y0 y1 y2 y3 y4 y5
   unfold zw.l0
   repeat' first
   | (with_reducible exact ih0 _ _ _)
   | (with_reducible exact ih1 _ _ _ _ _ _)
   | (with_reducible exact ih2 _ _ _ _ _ _ _)
   | (with_reducible exact LeO.refl _)
   | (with_reducible exact LeO.none _)
   | (with_reducible refine LeO.ite ?_ ?_)
   | (with_reducible refine LeO.bind ?_ (fun _ => ?_))
   | exact ih0 _ _ _
   | exact ih1 _ _ _ _ _ _
   | exact ih2 _ _ _ _ _ _ _
   | exact LeO.none _
   | refine LeO.ite ?_ ?_
   | refine LeO.bind ?_ (fun _ => ?_)
  ·intro y0 y1 y2 y3 y4 y5 y6
   unfold zw.l1
   repeat' first
   | (with_reducible exact ih0 _ _ _)
   | (with_reducible exact ih1 _ _ _ _ _ _)
   | (with_reducible exact ih2 _ _ _ _ _ _ _)
   | (with_reducible exact LeO.refl _)
   | (with_reducible exact LeO.none _)
   | (with_reducible refine LeO.ite ?_ ?_)
   | (with_reducible refine LeO.bind ?_ (fun _ => ?_))
   | exact ih0 _ _ _
   | exact ih1 _ _ _ _ _ _
   | exact ih2 _ _ _ _ _ _ _
   | exact LeO.none _
   | refine LeO.ite ?_ ?_
   | refine LeO.bind ?_ (fun _ => ?_)
theorem zw.mono : ∀ a0 a1 a2 k, LeO (zw.f k a0 a1 a2) (zw.f (k + 1) a0 a1 a2) := by
 intro a0 a1 a2 k
 obtain ⟨ih0, ih1, ih2⟩ := zw.qV k
 unfold zw.f
 repeat' first
  | (with_reducible exact ih0 _ _ _)
  | (with_reducible exact ih1 _ _ _ _ _ _)
  | (with_reducible exact ih2 _ _ _ _ _ _ _)
  | (with_reducible exact LeO.refl _)
  | (with_reducible exact LeO.none _)
  | (with_reducible refine LeO.ite ?_ ?_)
  | (with_reducible refine LeO.bind ?_ (fun _ => ?_))
  | exact ih0 _ _ _
  | exact ih1 _ _ _ _ _ _
  | exact ih2 _ _ _ _ _ _ _
  | exact LeO.none _
  | refine LeO.ite ?_ ?_
  | refine LeO.bind ?_ (fun _ => ?_)
def zw.T3 : Bool × List (List Nat × List Nat) := (true, [([], []), ([], []), ([1], [1]), ([], []), ([], []), ([4], [4]), ([3, 5], [3, 5]), ([2, 6], [2, 6]), ([0, 7], [0, 7]), ([0, 1, 2, 3, 4, 5, 6, 7, 8], []), ([9, 8, 6, 0, 1, 2, 3, 4, 5, 6, 7, 8], [8, 9])])
def zw.B3 : List Nat := [0, 0, 2, 0, 0, 16, 56, 126, 255, 511, 1023]
theorem zw.tab3 : rtab .any (opsOf Try.f11 3) = zw.T3 := by kernel_rfl
theorem zw.bits3 : waitsOk zw.T3.2 zw.B3 = true := by kernel_rfl
set_option maxHeartbeats 8000000 in
set_option maxRecDepth 100000 in
theorem zw.calls (k : Nat) (g : Nat) (s0_0 : List Int) (s0_1 : Int) (a1 : Int) (r1 : Int) (r2 : List (S66)) (r3 : Int) (w0 w : World) (hI : zt w0 w g s0_0 s0_1) (hB : Below w0.heap.size w0 w) (h : zw.f k s0_0 s0_1 a1 = some (r1, r2, r3)) :
  Calls Try.prog 11 #[.pointer (some ⟨g, 0, none⟩), .int .i64 a1] w fun e w' => ∃ v1_ : Value, e = .returned (.agg #[.int .i64 r1, v1_]) ∧ Kd.R k66 66 w' w.heap.size (fun _ => True) v1_ r2 ∧ zt w0 w' g s0_0 r3 ∧ Below w0.heap.size w0 w' ∧ zC w w' g none := by
 have hu29 := Try.underlying29
 have hu66 := Try.underlying66
 have HI0 := za.mk hI
 have HK := za.mk (zC.refl w g none)
 have HL := za.mk hB.size
 clear hI
 have HW0 := za.mk hB.size
 have HB := za.mk hB
 clear hB
 have H : ((zJ.f s0_0 s0_1 (wrap64 (a1 + 1))).bind fun bt354 => (if bt354.1 < 4 then ((zJ.f s0_0 bt354.2 (wrap64 (a1 + 1))).bind fun bt357 => (zw.j0 k s0_0 bt357.2 (mn a1 (wrap64 (bt354.1 + bt357.1))))) else (zw.j0 k s0_0 bt354.2 bt354.1))) = some (r1, r2, r3) := h
 clear h
 replace H := Option.bind_eq_some_iff.mp H
 obtain ⟨⟨t354, t355⟩, A30, H⟩ := H
 replace H : (if t354 < 4 then ((zJ.f s0_0 t355 (wrap64 (a1 + 1))).bind fun bt357 => (zw.j0 k s0_0 bt357.2 (mn a1 (wrap64 (t354 + bt357.1))))) else (zw.j0 k s0_0 t355 t354)) = some (r1, r2, r3) := H
 have A3 := za.mk A30
 clear A30
 have HC4 := za.mk H
 clear H
 go_enter Try.func11, Try.ntmps11
 go_upto_if 16 with (first | ((with_reducible refine qJ (N := 4) rfl ?_); refine qI ?hg (N := 4) ?hd (cs := #[.int .i64 0, .slice none 0 0]) (t := 29) ?hr ?_; (case hd => rfl); (case hg => rfl); (case hr => first | (go_simp; done) | (go_simp; rfl)); intro gb353 hg w5 hbox hb; have n0_ := za.mk (zt.below (by repeat (first | (with_reducible first | exact HI0.out | apply zt.alloc | apply zt.drewN | apply zt.drew | apply zt.qQ) | exact HI0.out)) hb); have n1_ := za.mk (zC.trans (by repeat (first | (with_reducible first | exact HK.out | apply zC.set_ | apply zZ | apply qd | apply zY) | exact HK.out)) (zC.of_below hb g none) (.inl rfl)); have n2_ := za.mk (zT (by repeat (first | (with_reducible first | exact HB.out | apply zf | apply zb | apply zg | refine zi ?_ (zt.ge HI0.out)) | exact HB.out)) hb); have n3_ := za.mk (hbox); have n4_ := za.mk ((by rw [hg]; exact (Zi (w := w) (g := g) (row := none) (by repeat (first | (with_reducible first | exact HK.out | apply zC.set_ | apply zZ | apply qd | apply zY) | exact HK.out))) : w.heap.size ≤ gb353)); have n5_ := za.mk ((Nat.le_trans HW0.out (by rw [hg]; exact (Zi (w := w) (g := g) (row := none) (by repeat (first | (with_reducible first | exact HK.out | apply zC.set_ | apply zZ | apply qd | apply zY) | exact HK.out))) : w.heap.size ≤ gb353) : w0.heap.size ≤ gb353)); have n6_ := za.mk ((by rw [hg]; exact Nat.ne_of_lt (zt.lt (show zt w0 _ g s0_0 s0_1 from by repeat (first | (with_reducible first | exact HI0.out | apply zt.alloc | apply zt.drewN | apply zt.drew | apply zt.qQ) | exact HI0.out))) : g ≠ gb353)); have n7_ := za.mk ((by rw [hg]; exact Nat.ne_of_gt (zt.lt (show zt w0 _ g s0_0 s0_1 from by repeat (first | (with_reducible first | exact HI0.out | apply zt.alloc | apply zt.drewN | apply zt.drew | apply zt.qQ) | exact HI0.out))) : gb353 ≠ g)); clear HI0; clear HK; clear HB; have HI0 := n0_; have HK := n1_; have HB := n2_; have BK353 := n3_; have GW353 := n4_; have GE353 := n5_; have NB0_353 := n6_; have NB353_0 := n7_; clear n0_ n1_ n2_ n3_ n4_ n5_ n6_ n7_; clear hb hbox hg) | ((with_reducible refine qc (f := 29) rfl ?_); refine qU (some 12) rfl rfl Try.func29 (by kernel_rfl) rfl #[.pointer (some ⟨g, 0, none⟩), .int .i64 (wrap64 (a1 + 1))] rfl (by (try simp only [List.map_toArray, List.map_cons, List.map_nil]); first | done | rfl | (simp only [List.length_drop, List.length_take]; rfl)) ?_; (with_reducible refine (zJ.calls g s0_0 s0_1 (wrap64 (a1 + 1)) t354 t355 w0 _ ?side1 ?side2 A3.out).mono ?_); (case side1 => repeat (first | (with_reducible first | exact HI0.out | apply zt.alloc | apply zt.drewN | apply zt.drew | apply zt.qQ | refine zt.far ?_ NB0_353.out _) | exact HI0.out)); (case side2 => repeat (first | (with_reducible first | exact HB.out | apply zf | apply zb | apply zg | refine zi ?_ (zt.ge HI0.out) | refine zi ?_ GE353.out) | exact HB.out)); rintro e w6 ⟨rfl, hi, hb, hk⟩; refine ⟨_, rfl, ?_⟩; have n0_ := za.mk (zC.blk hk (g' := gb353) (o := .cells #[.int .i64 0, .slice none 0 0] 29 (0, 0)) (by (with_reducible repeat (first | refine zk ?_ _ | refine zm ?_ | refine zh ?_ _)); exact BK353.out) NB353_0.out (by simp)); have n1_ := za.mk (zC.trans (by repeat (first | (with_reducible first | exact HK.out | apply zC.set_ | apply zZ | apply qd | apply zY | refine qo ?_ GW353.out _) | exact HK.out)) hk (.inl rfl)); have n2_ := za.mk (hb); have n3_ := za.mk (hi); clear BK353; clear HK; clear HB; clear HI0; have BK353 := n0_; have HK := n1_; have HB := n2_; have HI0 := n3_; clear n0_ n1_ n2_ n3_; (try clear hb); (try clear hb2); (try clear hk); (try clear hi)) | ((with_reducible refine qJ (N := 5) rfl ?_); refine qI ?hg (N := 5) ?hd (cs := #[.int .i64 0, .slice none 0 0]) (t := 29) ?hr ?_; (case hd => rfl); (case hg => rfl); (case hr => first | (go_simp; done) | (go_simp; rfl)); intro gb356 hg w7 hbox hb; have n0_ := za.mk (zt.below (by repeat (first | (with_reducible first | exact HI0.out | apply zt.alloc | apply zt.drewN | apply zt.drew | apply zt.qQ | refine zt.far ?_ NB0_353.out _) | exact HI0.out)) hb); have n1_ := za.mk (zW (g := gb353) (o := .cells #[.int .i64 0, .slice none 0 0] 29 (0, 0)) (by (with_reducible repeat (first | refine zk ?_ _ | refine zm ?_ | refine zh ?_ _)); exact BK353.out) hb); have n2_ := za.mk (zC.trans (by repeat (first | (with_reducible first | exact HK.out | apply zC.set_ | apply zZ | apply qd | apply zY | refine qo ?_ GW353.out _) | exact HK.out)) (zC.of_below hb g none) (.inl rfl)); have n3_ := za.mk (zT (by repeat (first | (with_reducible first | exact HB.out | apply zf | apply zb | apply zg | refine zi ?_ (zt.ge HI0.out) | refine zi ?_ GE353.out) | exact HB.out)) hb); have n4_ := za.mk (hbox); have n5_ := za.mk ((by rw [hg]; exact (Zi (w := w) (g := g) (row := none) (by repeat (first | (with_reducible first | exact HK.out | apply zC.set_ | apply zZ | apply qd | apply zY | refine qo ?_ GW353.out _) | exact HK.out))) : w.heap.size ≤ gb356)); have n6_ := za.mk ((Nat.le_trans HW0.out (by rw [hg]; exact (Zi (w := w) (g := g) (row := none) (by repeat (first | (with_reducible first | exact HK.out | apply zC.set_ | apply zZ | apply qd | apply zY | refine qo ?_ GW353.out _) | exact HK.out))) : w.heap.size ≤ gb356) : w0.heap.size ≤ gb356)); have n7_ := za.mk ((by rw [hg]; exact Nat.ne_of_lt (qg (g := gb353) (o := .cells #[.int .i64 0, .slice none 0 0] 29 (0, 0)) (by (with_reducible repeat (first | refine zk ?_ _ | refine zm ?_ | refine zh ?_ _)); exact BK353.out)) : gb353 ≠ gb356)); have n8_ := za.mk ((by rw [hg]; exact Nat.ne_of_gt (qg (g := gb353) (o := .cells #[.int .i64 0, .slice none 0 0] 29 (0, 0)) (by (with_reducible repeat (first | refine zk ?_ _ | refine zm ?_ | refine zh ?_ _)); exact BK353.out)) : gb356 ≠ gb353)); have n9_ := za.mk ((by rw [hg]; exact Nat.ne_of_lt (zt.lt (show zt w0 _ g s0_0 t355 from by repeat (first | (with_reducible first | exact HI0.out | apply zt.alloc | apply zt.drewN | apply zt.drew | apply zt.qQ | refine zt.far ?_ NB0_353.out _) | exact HI0.out))) : g ≠ gb356)); have n10_ := za.mk ((by rw [hg]; exact Nat.ne_of_gt (zt.lt (show zt w0 _ g s0_0 t355 from by repeat (first | (with_reducible first | exact HI0.out | apply zt.alloc | apply zt.drewN | apply zt.drew | apply zt.qQ | refine zt.far ?_ NB0_353.out _) | exact HI0.out))) : gb356 ≠ g)); clear HI0; clear BK353; clear HK; clear HB; have HI0 := n0_; have BK353 := n1_; have HK := n2_; have HB := n3_; have BK356 := n4_; have GW356 := n5_; have GE356 := n6_; have NB353_356 := n7_; have NB356_353 := n8_; have NB0_356 := n9_; have NB356_0 := n10_; clear n0_ n1_ n2_ n3_ n4_ n5_ n6_ n7_ n8_ n9_ n10_; clear hb hbox hg; have hnb8 := NB356_353.out; have hnc8 := NB353_356.out; have hnb9 := NB356_0.out; have hnc9 := NB0_356.out; have hcz10_0 : w7.cell? ⟨gb356, 0, none⟩ = some (.int .i64 0) := (ze BK356.out 0).trans rfl; have hcz10_1 : w7.cell? ⟨gb356, 1, none⟩ = some (.slice none 0 0) := (ze BK356.out 1).trans rfl; have hfz10_0 := zl BK356.out 0; have hfz10_1 := zl BK356.out 1))
 (try simp only [Act.put, List.setIfInBounds_toArray, List.set_cons_zero, List.set_cons_succ])
 go_cut [] (fun wc => ∃ (kq : Nat) (x1001_3 : Int) (x357000_3 : Int), za (zw.j0 kq s0_0 x1001_3 x357000_3 = some (r1, r2, r3)) ∧ za (kq ≤ k) ∧ za (wc.heap[gb353]? = some (.cells #[.int .i64 0, (.slice none 0 0)] 29 (0, 0))) ∧ za (wc.heap[gb356]? = some (.cells #[.int .i64 x357000_3, (.slice none 0 0)] 29 (0, 0))) ∧ za (zt w0 wc g s0_0 x1001_3) ∧ za (zC w wc g none) ∧ za (Below w0.heap.size w0 wc))
 case first =>
  have H := HC4.out
  clear HC4
  by_cases c11 : t354 < 4
  ·rw [if_pos c11] at H
   have c11b0 : decide (t354 < 4) = true := decide_eq_true c11
   clear c11
   (first | rw [c11b0] | (simp only [qh, qj]; rw [c11b0]) | skip)
   replace H := Option.bind_eq_some_iff.mp H
   obtain ⟨⟨t357, t358⟩, A120, H⟩ := H
   replace H : (zw.j0 k s0_0 t358 (mn a1 (wrap64 (t354 + t357)))) = some (r1, r2, r3) := H
   have A12 := za.mk A120
   clear A120
   obtain ⟨ji13, hji13⟩ : ∃ j_ : Int, (mn a1 (wrap64 (t354 + t357))) = j_ := ⟨_, rfl⟩
   replace H : (zw.j0 k s0_0 t358 ji13) = some (r1, r2, r3) := by first | (rw [hji13] at H; exact H) | (simp only [hji13] at H ⊢; exact H)
   (try rw [hji13] at A12)
   have hji13_ : (if (wrap64 (t354 + t357)) < a1 then (wrap64 (t354 + t357)) else a1) = ji13 := hji13
   have H' := za.mk H
   clear H
   try go_wp2
   have n0_ : za (((w7.setCell ⟨gb356, 0, none⟩ (.int .i64 t354)).setCell ⟨gb356, 1, none⟩ (.slice none 0 0)).heap[gb353]? = some (.cells #[.int .i64 0, .slice none 0 0] 29 (0, 0))) := ⟨by (with_reducible repeat (first | refine zk ?_ _ | refine zm ?_ | refine zh ?_ _)); refine ql ?_ NB353_356.out _; (with_reducible repeat (first | refine zk ?_ _ | refine zm ?_ | refine zh ?_ _)); refine ql ?_ NB353_356.out _; (with_reducible repeat (first | refine zk ?_ _ | refine zm ?_ | refine zh ?_ _)); exact BK353.out⟩
   have n1_ : za (((w7.setCell ⟨gb356, 0, none⟩ (.int .i64 t354)).setCell ⟨gb356, 1, none⟩ (.slice none 0 0)).heap[gb356]? = some (.cells #[.int .i64 t354, .slice none 0 0] 29 (0, 0))) := ⟨by (with_reducible repeat (first | refine zk ?_ _ | refine zm ?_ | refine zh ?_ _)); refine zX (cs := #[.int .i64 t354, .slice none 0 0]) ?_ 1 _ rfl; (with_reducible repeat (first | refine zk ?_ _ | refine zm ?_ | refine zh ?_ _)); refine zX (cs := #[.int .i64 0, .slice none 0 0]) ?_ 0 _ rfl; (with_reducible repeat (first | refine zk ?_ _ | refine zm ?_ | refine zh ?_ _)); exact BK356.out⟩
   have n2_ : za (zt w0 ((w7.setCell ⟨gb356, 0, none⟩ (.int .i64 t354)).setCell ⟨gb356, 1, none⟩ (.slice none 0 0)) g s0_0 t355) := ⟨by repeat (first | (with_reducible first | exact HI0.out | apply zt.alloc | apply zt.drewN | apply zt.drew | apply zt.qQ | refine zt.far ?_ NB0_353.out _ | refine zt.far ?_ NB0_356.out _) | exact HI0.out)⟩
   have n3_ : za (zC w ((w7.setCell ⟨gb356, 0, none⟩ (.int .i64 t354)).setCell ⟨gb356, 1, none⟩ (.slice none 0 0)) g none) := ⟨by repeat (first | (with_reducible first | exact HK.out | apply zC.set_ | apply zZ | apply qd | apply zY | refine qo ?_ GW353.out _ | refine qo ?_ GW356.out _) | exact HK.out)⟩
   have n4_ : za (Below w0.heap.size w0 ((w7.setCell ⟨gb356, 0, none⟩ (.int .i64 t354)).setCell ⟨gb356, 1, none⟩ (.slice none 0 0))) := ⟨by repeat (first | (with_reducible first | exact HB.out | apply zf | apply zb | apply zg | refine zi ?_ (zt.ge HI0.out) | refine zi ?_ GE353.out | refine zi ?_ GE356.out) | exact HB.out)⟩
   (try clear BK353)
   (try clear BK356)
   (try clear HI0)
   (try clear HK)
   (try clear HB)
   generalize ((w7.setCell ⟨gb356, 0, none⟩ (.int .i64 t354)).setCell ⟨gb356, 1, none⟩ (.slice none 0 0)) = w14 at n0_ n1_ n2_ n3_ n4_ ⊢
   have BK353 := n0_
   have BK356 := n1_
   have HI0 := n2_
   have HK := n3_
   have HB := n4_
   clear n0_ n1_ n2_ n3_ n4_
   have n0_ := za.mk (zm BK353.out)
   have n1_ := za.mk (zm BK356.out)
   have n2_ := za.mk (zt.drew HI0.out)
   have n3_ := za.mk (qd HK.out)
   have n4_ := za.mk (zg HB.out)
   clear BK353
   clear BK356
   clear HI0
   clear HK
   clear HB
   have BK353 := n0_
   have BK356 := n1_
   have HI0 := n2_
   have HK := n3_
   have HB := n4_
   clear n0_ n1_ n2_ n3_ n4_
   refine start_ (n := 11) (S := fun w' => w'.cell? ⟨gb356, 0, none⟩ = some (.int .i64 t354) ∧ w'.cell? ⟨gb356, 1, none⟩ = some (.slice none 0 0)) (ds := [10]) #[false, false, false, false, false, false, false, false, false, false, false] (by kernel_rfl) rfl rfl ⟨(ze BK356.out 0).trans rfl, (ze BK356.out 1).trans rfl⟩ (fun hHeld => ?_); refine ZX zw.tab3 zw.bits3 (fun HT_ HW_ => ?_)
   generalize w14.drew = w15 at BK353 BK356 HI0 HK HB hHeld ⊢
   refine qK (i := 0) (N := some 17) (v := ?_) (a' := ?_) #[true, false, false, false, false, false, false, false, false, false, false] rfl rfl (qy HT_.out (by kernel_rfl)) (fun _ _ _ h => h) (Or.inl ⟨by rfl, ?_⟩) ?_ ?_
   rotate_left
   ·intro w'
    go_simp
    with_reducible rfl
   rotate_left
   ·simp only [Act.put, List.setIfInBounds_toArray, List.set_cons_zero, List.set_cons_succ, qh, qj]
    rfl
   refine qK (i := 1) (N := some 18) (v := ?_) (a' := ?_) #[true, true, false, false, false, false, false, false, false, false, false] rfl rfl (qy HT_.out (by kernel_rfl)) (fun _ _ _ h => h) (Or.inl ⟨by rfl, ?_⟩) ?_ ?_
   rotate_left
   ·intro w'
    go_simp
    with_reducible rfl
   rotate_left
   ·simp only [Act.put, List.setIfInBounds_toArray, List.set_cons_zero, List.set_cons_succ, qh, qj]
    rfl
   refine qK (i := 3) (N := some 20) (v := ?_) (a' := ?_) #[true, true, false, true, false, false, false, false, false, false, false] rfl rfl (qy HT_.out (by kernel_rfl)) (fun _ _ _ h => h) (Or.inl ⟨by rfl, ?_⟩) ?_ ?_
   rotate_left
   ·intro w'
    go_simp
    with_reducible rfl
   rotate_left
   ·simp only [Act.put, List.setIfInBounds_toArray, List.set_cons_zero, List.set_cons_succ, qh, qj]
    rfl
   refine qK (i := 4) (N := some 21) (v := ?_) (a' := ?_) #[true, true, false, true, true, false, false, false, false, false, false] rfl rfl (qy HT_.out (by kernel_rfl)) (fun _ _ _ h => h) (Or.inl ⟨by rfl, ?_⟩) ?_ ?_
   rotate_left
   ·intro w'
    go_simp
    with_reducible rfl
   rotate_left
   ·simp only [Act.put, List.setIfInBounds_toArray, List.set_cons_zero, List.set_cons_succ, qh, qj]
    rfl
   refine qK (i := 5) (N := some 22) (v := ?_) (a' := ?_) #[true, true, false, true, true, true, false, false, false, false, false] rfl rfl (qy HT_.out (by kernel_rfl)) (fun _ _ _ h => h) (Or.inl ⟨by rfl, ?_⟩) ?_ ?_
   rotate_left
   ·intro w'
    go_simp
    with_reducible rfl
   rotate_left
   ·simp only [Act.put, List.setIfInBounds_toArray, List.set_cons_zero, List.set_cons_succ, qh, qj]
    rfl
   refine take_ (i := 2) (N := some 19) (v := ?_) (a' := ?_) #[true, true, true, true, true, true, false, false, false, false, false] rfl rfl (Zw HT_.out HW_.out (by kernel_rfl)) (fun _ _ _ h => h) (Or.inl ⟨by rfl, ?_⟩) hHeld ?_ ?_
   rotate_left
   ·rintro w' ⟨s0, s1⟩
    go_simp
    with_reducible rfl
   rotate_left
   ·simp only [Act.put, List.setIfInBounds_toArray, List.set_cons_zero, List.set_cons_succ, qh, qj]
    rfl
   refine one_ (i := 6) (N := some 23) #[true, true, true, true, true, true, true, false, false, false, false] rfl rfl (Qh HT_.out (by kernel_rfl)) (by decide) (fun K hK => ?_)
   refine goes_ Try.func29 (by kernel_rfl) rfl #[.pointer (some ⟨g, 0, none⟩), .int .i64 (wrap64 (a1 + 1))] (by rfl) rfl rfl (by (try simp only [List.map_toArray, List.map_cons, List.map_nil]); first | done | rfl | (simp only [List.length_drop, List.length_take]; rfl)) ?_
   with_reducible refine (zJ.calls g s0_0 t355 (wrap64 (a1 + 1)) t357 t358 w0 _ ?side1 ?side2 A12.out).mono ?_
   (case side1 => repeat (first | (with_reducible first | exact HI0.out | apply zt.alloc | apply zt.drewN | apply zt.drew | apply zt.qQ | refine zt.far ?_ NB0_353.out _ | refine zt.far ?_ NB0_356.out _) | exact HI0.out))
   (case side2 => repeat (first | (with_reducible first | exact HB.out | apply zf | apply zb | apply zg | refine zi ?_ (zt.ge HI0.out) | refine zi ?_ GE353.out | refine zi ?_ GE356.out) | exact HB.out))
   rintro e w16 ⟨rfl, hi, hb, hk⟩
   refine ⟨_, rfl, ?_⟩
   have n0_ := za.mk (zC.blk hk (g' := gb353) (o := .cells #[.int .i64 0, .slice none 0 0] 29 (0, 0)) (by (with_reducible repeat (first | refine zk ?_ _ | refine zm ?_ | refine zh ?_ _)); exact BK353.out) NB353_0.out (by simp))
   have n1_ := za.mk (zC.blk hk (g' := gb356) (o := .cells #[.int .i64 t354, .slice none 0 0] 29 (0, 0)) (by (with_reducible repeat (first | refine zk ?_ _ | refine zm ?_ | refine zh ?_ _)); exact BK356.out) NB356_0.out (by simp))
   have n2_ := za.mk (zC.trans (by repeat (first | (with_reducible first | exact HK.out | apply zC.set_ | apply zZ | apply qd | apply zY | refine qo ?_ GW353.out _ | refine qo ?_ GW356.out _) | exact HK.out)) hk (.inl rfl))
   have n3_ := za.mk (hb)
   have n4_ := za.mk (hi)
   clear BK353
   clear BK356
   clear HK
   clear HB
   clear HI0
   have BK353 := n0_
   have BK356 := n1_
   have HK := n2_
   have HB := n3_
   have HI0 := n4_
   clear n0_ n1_ n2_ n3_ n4_
   (try clear hb)
   (try clear hb2)
   (try clear hk)
   (try clear hi)
   refine hK.out _ _ ⟨(ze BK356.out 0).trans rfl, (ze BK356.out 1).trans rfl⟩ (fun hHeld => ?_)
   clear hK K
   refine norm_ (a' := ?_) ?_ ?_
   rotate_left
   ·show Act.put _ (some 23) _ = _
    simp only [Act.put, List.setIfInBounds_toArray, List.set_cons_zero, List.set_cons_succ, qh, qj]
    rfl
   refine qK (i := 7) (N := some 24) (v := ?_) (a' := ?_) #[true, true, true, true, true, true, true, true, false, false, false] rfl rfl (qy HT_.out (by kernel_rfl)) (fun _ _ _ h => h) (Or.inl ⟨by rfl, ?_⟩) ?_ ?_
   rotate_left
   ·intro w'
    go_simp
    with_reducible rfl
   rotate_left
   ·simp only [Act.put, List.setIfInBounds_toArray, List.set_cons_zero, List.set_cons_succ, qh, qj]
    rfl
   refine qK (i := 8) (N := some 25) (v := ?_) (a' := ?_) #[true, true, true, true, true, true, true, true, true, false, false] rfl rfl (qy HT_.out (by kernel_rfl)) (fun _ _ _ h => h) (Or.inl ⟨by rfl, ?_⟩) ?_ ?_
   rotate_left
   ·intro w'
    go_simp
    with_reducible rfl
   rotate_left
   ·simp only [Act.put, List.setIfInBounds_toArray, List.set_cons_zero, List.set_cons_succ, qh, qj]
    rfl
   refine qK (i := 9) (N := some 26) (v := ?_) (a' := ?_) #[true, true, true, true, true, true, true, true, true, true, false] rfl rfl (qy HT_.out (by kernel_rfl)) (fun _ _ _ h => h) (Or.inl ⟨by rfl, ?_⟩) ?_ ?_
   rotate_left
   ·intro w'
    go_simp
    with_reducible rfl
   rotate_left
   ·simp only [Act.put, List.setIfInBounds_toArray, List.set_cons_zero, List.set_cons_succ, qh, qj]
    rfl
   refine last_ (i := 10) (N := none) #[true, true, true, true, true, true, true, true, true, true, true] rfl rfl (Qh HT_.out (by kernel_rfl)) (by decide) (fun K hK => ?_)
   have hs17 : w16.cell? ⟨gb356, 0, none⟩ = some (.int .i64 t354) := (ze BK356.out 0).trans rfl
   have hfs17 := zl BK356.out 0
   have hns17_0 := NB353_356.out
   have hms17_0 := NB356_353.out
   refine skip_ (w1 := ?_) (by rfl) rfl ?_ ?_
   rotate_left
   ·go_simp
    rfl
   refine hK.out _ _ ?_
   clear hK K
   refine done_ (done_of HT_.out (by kernel_rfl)) ?_
   try go_wp2
   go_meet
   case rel => exact ⟨_, (t358), (ji13), H', ⟨by first | omega | exact Nat.le_refl _⟩, ⟨by (with_reducible repeat (first | refine zk ?_ _ | refine zm ?_ | refine zh ?_ _)); refine ql ?_ NB353_356.out _; (with_reducible repeat (first | refine zk ?_ _ | refine zm ?_ | refine zh ?_ _)); exact BK353.out⟩, ⟨by (with_reducible repeat (first | refine zk ?_ _ | refine zm ?_ | refine zh ?_ _)); refine zX (cs := #[.int .i64 t354, .slice none 0 0]) ?_ 0 _ rfl; (with_reducible repeat (first | refine zk ?_ _ | refine zm ?_ | refine zh ?_ _)); exact BK356.out⟩, ⟨by repeat (first | (with_reducible first | exact HI0.out | apply zt.alloc | apply zt.drewN | apply zt.drew | apply zt.qQ | refine zt.far ?_ NB0_353.out _ | refine zt.far ?_ NB0_356.out _) | exact HI0.out)⟩, ⟨by repeat (first | (with_reducible first | exact HK.out | apply zC.set_ | apply zZ | apply qd | apply zY | refine qo ?_ GW353.out _ | refine qo ?_ GW356.out _) | exact HK.out)⟩, ⟨by repeat (first | (with_reducible first | exact HB.out | apply zf | apply zb | apply zg | refine zi ?_ (zt.ge HI0.out) | refine zi ?_ GE353.out | refine zi ?_ GE356.out) | exact HB.out)⟩⟩
  ·rw [if_neg c11] at H
   have c11b0 : decide (t354 < 4) = false := decide_eq_false c11
   clear c11
   (first | rw [c11b0] | (simp only [qh, qj]; rw [c11b0]) | skip)
   have H' := za.mk H
   clear H
   go_wp2
   go_meet
   case rel => exact ⟨_, (t355), (t354), H', ⟨by first | omega | exact Nat.le_refl _⟩, ⟨by (with_reducible repeat (first | refine zk ?_ _ | refine zm ?_ | refine zh ?_ _)); refine ql ?_ NB353_356.out _; (with_reducible repeat (first | refine zk ?_ _ | refine zm ?_ | refine zh ?_ _)); refine ql ?_ NB353_356.out _; (with_reducible repeat (first | refine zk ?_ _ | refine zm ?_ | refine zh ?_ _)); exact BK353.out⟩, ⟨by (with_reducible repeat (first | refine zk ?_ _ | refine zm ?_ | refine zh ?_ _)); refine zX (cs := #[.int .i64 t354, .slice none 0 0]) ?_ 1 _ rfl; (with_reducible repeat (first | refine zk ?_ _ | refine zm ?_ | refine zh ?_ _)); refine zX (cs := #[.int .i64 0, .slice none 0 0]) ?_ 0 _ rfl; (with_reducible repeat (first | refine zk ?_ _ | refine zm ?_ | refine zh ?_ _)); exact BK356.out⟩, ⟨by repeat (first | (with_reducible first | exact HI0.out | apply zt.alloc | apply zt.drewN | apply zt.drew | apply zt.qQ | refine zt.far ?_ NB0_353.out _ | refine zt.far ?_ NB0_356.out _) | exact HI0.out)⟩, ⟨by repeat (first | (with_reducible first | exact HK.out | apply zC.set_ | apply zZ | apply qd | apply zY | refine qo ?_ GW353.out _ | refine qo ?_ GW356.out _) | exact HK.out)⟩, ⟨by repeat (first | (with_reducible first | exact HB.out | apply zf | apply zb | apply zg | refine zi ?_ (zt.ge HI0.out) | refine zi ?_ GE353.out | refine zi ?_ GE356.out) | exact HB.out)⟩⟩
 case rest =>
  clear HC4
  try clear c1
  try clear c2
  try clear p2
  try clear p6
  try clear c8
  try clear c9
  try clear c11
  try clear c11b0
  try clear hcz10_0
  try clear hcz10_1
  try clear hfz10_0
  try clear hfz10_1
  obtain ⟨kq, x1001_3, x357000_3, HA, HJ3, BK353, BK356, HI0, HK, HB⟩ := hcut
  cases kq with
  | zero => exact absurd HA.out (by simp [zw.j0])
  | succ kj3 =>
   have H := HA.out
   clear HA
   simp only [zw.j0] at H
   replace H := Option.bind_eq_some_iff.mp H
   obtain ⟨⟨t359, t360⟩, A180, H⟩ := H
   replace H : (zw.l0 kj3 (wrap64 (1 + t359)) 0 s0_0 t360 x357000_3 ([] : List (S66))) = some (r1, r2, r3) := H
   have A18 := za.mk A180
   clear A180
   have H' := za.mk H
   clear H
   go_wp2_with (first | ((with_reducible refine qc (f := 29) rfl ?_); refine qU (some 28) rfl rfl Try.func29 (by kernel_rfl) rfl #[.pointer (some ⟨g, 0, none⟩), .int .i64 4] rfl (by (try simp only [List.map_toArray, List.map_cons, List.map_nil]); first | done | rfl | (simp only [List.length_drop, List.length_take]; rfl)) ?_; (with_reducible refine (zJ.calls g s0_0 x1001_3 4 t359 t360 w0 _ ?side1 ?side2 A18.out).mono ?_); (case side1 => repeat (first | (with_reducible first | exact HI0.out | apply zt.alloc | apply zt.drewN | apply zt.drew | apply zt.qQ | refine zt.far ?_ NB0_353.out _ | refine zt.far ?_ NB0_356.out _) | exact HI0.out)); (case side2 => repeat (first | (with_reducible first | exact HB.out | apply zf | apply zb | apply zg | refine zi ?_ (zt.ge HI0.out) | refine zi ?_ GE353.out | refine zi ?_ GE356.out) | exact HB.out)); rintro e w19 ⟨rfl, hi, hb, hk⟩; refine ⟨_, rfl, ?_⟩; have n0_ := za.mk (zC.blk hk (g' := gb353) (o := .cells #[.int .i64 0, .slice none 0 0] 29 (0, 0)) (by (with_reducible repeat (first | refine zk ?_ _ | refine zm ?_ | refine zh ?_ _)); exact BK353.out) NB353_0.out (by simp)); have n1_ := za.mk (zC.blk hk (g' := gb356) (o := .cells #[.int .i64 x357000_3, .slice none 0 0] 29 (0, 0)) (by (with_reducible repeat (first | refine zk ?_ _ | refine zm ?_ | refine zh ?_ _)); exact BK356.out) NB356_0.out (by simp)); have n2_ := za.mk (zC.trans (by repeat (first | (with_reducible first | exact HK.out | apply zC.set_ | apply zZ | apply qd | apply zY | refine qo ?_ GW353.out _ | refine qo ?_ GW356.out _) | exact HK.out)) hk (.inl rfl)); have n3_ := za.mk (hb); have n4_ := za.mk (hi); clear BK353; clear BK356; clear HK; clear HB; clear HI0; have BK353 := n0_; have BK356 := n1_; have HK := n2_; have HB := n3_; have HI0 := n4_; clear n0_ n1_ n2_ n3_ n4_; (try clear hb); (try clear hb2); (try clear hk); (try clear hi)))
   go_loopg [7] kj3 (fun kq v7 w' => ∃ (x7_2 : Int) (x1001_2 : Int) (x357001_2 : List (S66)) (u357001 : Value), v7 = .int .i64 x7_2 ∧ za (zw.l0 kq (wrap64 (1 + t359)) x7_2 s0_0 x1001_2 x357000_3 x357001_2 = some (r1, r2, r3)) ∧ za (kq ≤ kj3) ∧ za (Kd.R k66 66 w' w.heap.size (fun _ => True) u357001 x357001_2) ∧ za (w'.heap[gb353]? = some (.cells #[.int .i64 0, (.slice none 0 0)] 29 (0, 0))) ∧ za (w'.heap[gb356]? = some (.cells #[.int .i64 x357000_3, u357001] 29 (0, 0))) ∧ za (zt w0 w' g s0_0 x1001_2) ∧ za (zC w w' g none) ∧ za (Below w0.heap.size w0 w'))
   case atStart => exact ⟨(0), (t360), (([] : List (S66))), (.slice none 0 0), (by first | rfl | (simp; done) | (simp [*]; done)), H', ⟨Nat.le_refl _⟩, ⟨by first | exact Kd.ZO _ _ _ _ _ | exact Kd.N_nil _ _ _ _ _ | exact Kd.V_nil _ _ _ _ _ | exact Kd.Q_nil _ _ _ _ _ | exact Kd.S_nil _ _ _ _ _⟩, ⟨by (with_reducible repeat (first | refine zk ?_ _ | refine zm ?_ | refine zh ?_ _)); exact BK353.out⟩, ⟨by (with_reducible repeat (first | refine zk ?_ _ | refine zm ?_ | refine zh ?_ _)); exact BK356.out⟩, ⟨by repeat (first | (with_reducible first | exact HI0.out | apply zt.alloc | apply zt.drewN | apply zt.drew | apply zt.qQ | refine zt.far ?_ NB0_353.out _ | refine zt.far ?_ NB0_356.out _) | exact HI0.out)⟩, ⟨by repeat (first | (with_reducible first | exact HK.out | apply zC.set_ | apply zZ | apply qd | apply zY | refine qo ?_ GW353.out _ | refine qo ?_ GW356.out _) | exact HK.out)⟩, ⟨by repeat (first | (with_reducible first | exact HB.out | apply zf | apply zb | apply zg | refine zi ?_ (zt.ge HI0.out) | refine zi ?_ GE353.out | refine zi ?_ GE356.out) | exact HB.out)⟩⟩
   case round =>
    clear H'
    try clear c1
    try clear c2
    try clear p2
    try clear p6
    try clear c8
    try clear c9
    try clear c11
    try clear c11b0
    try clear hcz10_0
    try clear hcz10_1
    try clear hfz10_0
    try clear hfz10_1
    try clear p2
    try clear p6
    obtain ⟨x7_2, x1001_2, x357001_2, u357001, rfl, HA, HK2, HO_357001, BK353, BK356, HI0, HK, HB⟩ := hrel
    cases gk with
    | zero => exact absurd HA.out (by simp [zw.l0])
    | succ k2 =>
     have H := HA.out
     clear HA
     simp only [zw.l0] at H
     by_cases c20 : x7_2 < x357000_3
     ·rw [if_pos c20] at H
      have c20b0 : decide (x7_2 < x357000_3) = true := decide_eq_true c20
      clear c20
      have H' := za.mk H
      clear H
      have hnb21 := NB356_353.out
      have hnc21 := NB353_356.out
      have hnb22 := NB356_0.out
      have hnc22 := NB0_356.out
      have hcz23_0 : wr.cell? ⟨gb356, 0, none⟩ = some (.int .i64 x357000_3) := (ze BK356.out 0).trans rfl
      have hcz23_1 : wr.cell? ⟨gb356, 1, none⟩ = some (u357001) := (ze BK356.out 1).trans rfl
      have hfz23_0 := zl BK356.out 0
      have hfz23_1 := zl BK356.out 1
      go_wp2
      go_loopg [8] k2 (fun kq v8 w' => ∃ (x8_3 : Int) (x1001_3 : Int) (x357001_3 : List (S66)) (u357001 : Value), v8 = .int .i64 x8_3 ∧ za (zw.l1 kq (wrap64 (1 + t359)) x7_2 x8_3 s0_0 x1001_3 x357000_3 x357001_3 = some (r1, r2, r3)) ∧ za (kq ≤ k2) ∧ za (Kd.R k66 66 w' w.heap.size (fun _ => True) u357001 x357001_3) ∧ za (w'.heap[gb353]? = some (.cells #[.int .i64 0, (.slice none 0 0)] 29 (0, 0))) ∧ za (w'.heap[gb356]? = some (.cells #[.int .i64 x357000_3, u357001] 29 (0, 0))) ∧ za (zt w0 w' g s0_0 x1001_3) ∧ za (zC w w' g none) ∧ za (Below w0.heap.size w0 w'))
      case atStart => exact ⟨(wrap64 (x7_2 + 1)), (x1001_2), (x357001_2), (u357001), (by first | rfl | (simp; done) | (simp [*]; done)), H', ⟨Nat.le_refl _⟩, ⟨by (with_reducible repeat (first | apply Kd.zn | apply Kd.zq | apply Kd.zu)); exact HO_357001.out⟩, ⟨by (with_reducible repeat (first | refine zk ?_ _ | refine zm ?_ | refine zh ?_ _)); exact BK353.out⟩, ⟨by (with_reducible repeat (first | refine zk ?_ _ | refine zm ?_ | refine zh ?_ _)); exact BK356.out⟩, ⟨by repeat (first | (with_reducible first | exact HI0.out | apply zt.alloc | apply zt.drewN | apply zt.drew | apply zt.qQ | refine zt.far ?_ NB0_353.out _ | refine zt.far ?_ NB0_356.out _) | exact HI0.out)⟩, ⟨by repeat (first | (with_reducible first | exact HK.out | apply zC.set_ | apply zZ | apply qd | apply zY | refine qo ?_ GW353.out _ | refine qo ?_ GW356.out _) | exact HK.out)⟩, ⟨by repeat (first | (with_reducible first | exact HB.out | apply zf | apply zb | apply zg | refine zi ?_ (zt.ge HI0.out) | refine zi ?_ GE353.out | refine zi ?_ GE356.out) | exact HB.out)⟩⟩
      case round =>
       clear H'
       try clear c1
       try clear c2
       try clear p2
       try clear p6
       try clear c8
       try clear c9
       try clear c11
       try clear c11b0
       try clear c20
       try clear c20b0
       try clear c21
       try clear c22
       try clear hcz10_0
       try clear hcz10_1
       try clear hcz23_0
       try clear hcz23_1
       try clear hfz10_0
       try clear hfz10_1
       try clear hfz23_0
       try clear hfz23_1
       try clear p2
       try clear p6
       obtain ⟨x8_3, x1001_3, x357001_3, u357001, rfl, HA, HK3, HO_357001, BK353, BK356, HI0, HK, HB⟩ := hrel
       cases gk with
       | zero => exact absurd HA.out (by simp [zw.l1])
       | succ k3 =>
        have H := HA.out
        clear HA
        simp only [zw.l1] at H
        by_cases c24 : x8_3 < x357000_3
        ·rw [if_pos c24] at H
         have c24b0 : decide (x8_3 < x357000_3) = true := decide_eq_true c24
         clear c24
         replace H := Option.bind_eq_some_iff.mp H
         obtain ⟨⟨t361, t362⟩, A250, H⟩ := H
         replace H : (if t361 ≥ (wrap64 (5 - (wrap64 (1 + t359)))) then (if x357001_3.length < 8796093022208 then (zw.l1 k3 (wrap64 (1 + t359)) x7_2 (wrap64 (x8_3 + 1)) s0_0 t362 x357000_3 (x357001_3 ++ [(⟨x7_2, x8_3⟩ : S66)])) else (none)) else (zw.l1 k3 (wrap64 (1 + t359)) x7_2 (wrap64 (x8_3 + 1)) s0_0 t362 x357000_3 x357001_3)) = some (r1, r2, r3) := H
         have A25 := za.mk A250
         clear A250
         by_cases c26 : t361 ≥ (wrap64 (5 - (wrap64 (1 + t359))))
         ·rw [if_pos c26] at H
          have c26b0 : decide ((wrap64 (5 - (wrap64 (1 + t359)))) ≤ t361) = true := decide_eq_true c26
          clear c26
          by_cases c27 : x357001_3.length < 8796093022208
          ·rw [if_pos c27] at H
           have LMc27 := za.mk c27
           clear c27
           obtain ⟨y363, hy363⟩ : ∃ y_ : List (S66), y_ = (x357001_3 ++ [(⟨x7_2, x8_3⟩ : S66)]) := ⟨_, rfl⟩
           replace H : (zw.l1 k3 (wrap64 (1 + t359)) x7_2 (wrap64 (x8_3 + 1)) s0_0 t362 x357000_3 y363) = some (r1, r2, r3) := by first | (rw [hy363]; with_reducible exact H) | (have H2_ := (Option.bind_some _ _).symm.trans H; rw [hy363]; with_reducible exact H2_) | (have H2_ := (Option.bind_some _ _).symm.trans H; with_reducible exact H2_) | with_reducible exact H | (rw [hy363]; exact H) | exact H
           have Ny363 := za.mk hy363
           clear hy363
           have H' := za.mk H
           clear H
           have hnb28 := NB356_353.out
           have hnc28 := NB353_356.out
           have hnb29 := NB356_0.out
           have hnc29 := NB0_356.out
           have hcz30_0 : wr.cell? ⟨gb356, 0, none⟩ = some (.int .i64 x357000_3) := (ze BK356.out 0).trans rfl
           have hcz30_1 : wr.cell? ⟨gb356, 1, none⟩ = some (u357001) := (ze BK356.out 1).trans rfl
           have hfz30_0 := zl BK356.out 0
           have hfz30_1 := zl BK356.out 1
           go_wp2_with (first | ((with_reducible refine qc (f := 29) rfl ?_); refine qU (some 45) rfl rfl Try.func29 (by kernel_rfl) rfl #[.pointer (some ⟨g, 0, none⟩), .int .i64 5] rfl (by (try simp only [List.map_toArray, List.map_cons, List.map_nil]); first | done | rfl | (simp only [List.length_drop, List.length_take]; rfl)) ?_; (with_reducible refine (zJ.calls g s0_0 x1001_3 5 t361 t362 w0 _ ?side1 ?side2 A25.out).mono ?_); (case side1 => repeat (first | (with_reducible first | exact HI0.out | apply zt.alloc | apply zt.drewN | apply zt.drew | apply zt.qQ | refine zt.far ?_ NB0_353.out _ | refine zt.far ?_ NB0_356.out _) | exact HI0.out)); (case side2 => repeat (first | (with_reducible first | exact HB.out | apply zf | apply zb | apply zg | refine zi ?_ (zt.ge HI0.out) | refine zi ?_ GE353.out | refine zi ?_ GE356.out) | exact HB.out)); rintro e w31 ⟨rfl, hi, hb, hk⟩; refine ⟨_, rfl, ?_⟩; have n0_ := za.mk (Kd.zR (Kd.R_keep (zt.apart (show zt w0 _ g s0_0 x1001_3 from by repeat (first | (with_reducible first | exact HI0.out | apply zt.alloc | apply zt.drewN | apply zt.drew | apply zt.qQ | refine zt.far ?_ NB0_353.out _ | refine zt.far ?_ NB0_356.out _) | exact HI0.out)) (by (with_reducible repeat (first | apply Kd.zn | apply Kd.zq | apply Kd.zu)); exact HO_357001.out) (by decide)) hk (fun _ h => h.2)) (fun _ h => h.1)); have n1_ := za.mk (zC.blk hk (g' := gb353) (o := .cells #[.int .i64 0, .slice none 0 0] 29 (0, 0)) (by (with_reducible repeat (first | refine zk ?_ _ | refine zm ?_ | refine zh ?_ _)); exact BK353.out) NB353_0.out (by simp)); have n2_ := za.mk (zC.blk hk (g' := gb356) (o := .cells #[.int .i64 x357000_3, u357001] 29 (0, 0)) (by (with_reducible repeat (first | refine zk ?_ _ | refine zm ?_ | refine zh ?_ _)); exact BK356.out) NB356_0.out (by simp)); have n3_ := za.mk (zC.trans (by repeat (first | (with_reducible first | exact HK.out | apply zC.set_ | apply zZ | apply qd | apply zY | refine qo ?_ GW353.out _ | refine qo ?_ GW356.out _) | exact HK.out)) hk (.inl rfl)); have n4_ := za.mk (hb); have n5_ := za.mk (hi); clear HO_357001; clear BK353; clear BK356; clear HK; clear HB; clear HI0; have HO_357001 := n0_; have BK353 := n1_; have BK356 := n2_; have HK := n3_; have HB := n4_; have HI0 := n5_; clear n0_ n1_ n2_ n3_ n4_ n5_; (try clear hb); (try clear hb2); (try clear hk); (try clear hi); have hcz32_0 : w31.cell? ⟨gb356, 0, none⟩ = some (.int .i64 x357000_3) := (ze BK356.out 0).trans rfl; have hcz32_1 : w31.cell? ⟨gb356, 1, none⟩ = some (u357001) := (ze BK356.out 1).trans rfl; have hfz32_0 := zl BK356.out 0; have hfz32_1 := zl BK356.out 1) | ((with_reducible refine Zb (b := .append) (xs := #[.tmp 50, .tmp 54]) rfl ?_); at_builtin; refine Kd.ZU k66 w.heap.size rfl (.tmp 50) (.tmp 54) 27 66 (.agg #[(.int .i64 0), (.int .i64 0)]) 16 rfl Try.underlying27 info66 rfl (by decide) (by omega) u357001 x357001_3 (⟨x7_2, x8_3⟩ : S66) [.int .i64 x7_2, .int .i64 x8_3] (fun _ => True) (fun _ => False) rfl rfl ?aP (fun _ hk => hk.elim) ?aF ?aO (Below.refl _ _) ?aS ?aL ?_; (case aP => exact k66_mkM _ _ _ (⟨x7_2, x8_3⟩ : S66)); (case aF => exact (fun _ _ => trivial)); (case aO => exact (by (with_reducible repeat (first | apply Kd.zn | apply Kd.zq | apply Kd.zu)); exact HO_357001.out)); (case aS => exact (Zi (w := w) (g := g) (row := none) (by repeat (first | (with_reducible first | exact HK.out | apply zC.set_ | apply zZ | apply qd | apply zY | refine qo ?_ GW353.out _ | refine qo ?_ GW356.out _) | exact HK.out)))); (case aL => have := LMc27.out; omega); intro v364 w33 ho hb hg hat; rw [← Ny363.out] at ho; have n0_ := za.mk (Zp (g := gb353) (o := .cells #[.int .i64 0, .slice none 0 0] 29 (0, 0)) (by (with_reducible repeat (first | refine zk ?_ _ | refine zm ?_ | refine zh ?_ _)); exact BK353.out) hg (Kd.R_ne HO_357001.out BK353.out (by decide))); have n1_ := za.mk (Zp (g := gb356) (o := .cells #[.int .i64 x357000_3, u357001] 29 (0, 0)) (by (with_reducible repeat (first | refine zk ?_ _ | refine zm ?_ | refine zh ?_ _)); exact BK356.out) hg (Kd.R_ne HO_357001.out BK356.out (by decide))); have n2_ := za.mk (zt.grown (by repeat (first | (with_reducible first | exact HI0.out | apply zt.alloc | apply zt.drewN | apply zt.drew | apply zt.qQ | refine zt.far ?_ NB0_353.out _ | refine zt.far ?_ NB0_356.out _) | exact HI0.out)) hg (zt.own_ne HI0.out HO_357001.out (by decide))); have n3_ := za.mk (below_weaken (by repeat (first | (with_reducible first | exact HB.out | apply zf | apply zb | apply zg | refine zi ?_ (zt.ge HI0.out) | refine zi ?_ GE353.out | refine zi ?_ GE356.out) | exact HB.out)) HL.out hb); have n4_ := za.mk (zC.trans (by repeat (first | (with_reducible first | exact HK.out | apply zC.set_ | apply zZ | apply qd | apply zY | refine qo ?_ GW353.out _ | refine qo ?_ GW356.out _) | exact HK.out)) (zC.Qf hg g) (Kd.R_base2 HO_357001.out)); have n5_ := za.mk (ho); clear BK353; clear BK356; clear HI0; clear HB; clear HK; clear HO_357001; have BK353 := n0_; have BK356 := n1_; have HI0 := n2_; have HB := n3_; have HK := n4_; have HO365 := n5_; clear n0_ n1_ n2_ n3_ n4_ n5_; clear ho hb hg hat; obtain ⟨Ao34, co34, eo34⟩ := Kd.qC HO365.out; subst eo34; have hcz35_0 : w33.cell? ⟨gb356, 0, none⟩ = some (.int .i64 x357000_3) := (ze BK356.out 0).trans rfl; have hcz35_1 : w33.cell? ⟨gb356, 1, none⟩ = some (u357001) := (ze BK356.out 1).trans rfl; have hfz35_0 := zl BK356.out 0; have hfz35_1 := zl BK356.out 1))
           go_roundg k3
           case measure => have := HJ3.out; have := HK2.out; have := HK3.out; omega
           case rel => exact ⟨(wrap64 (x8_3 + 1)), (t362), (y363), (.slice Ao34 y363.length co34), (by first | rfl | (simp; done) | (simp [*]; done)), H', ⟨by have := HJ3.out; have := HK2.out; have := HK3.out; omega⟩, ⟨by (with_reducible repeat (first | apply Kd.zn | apply Kd.zq | apply Kd.zu)); exact Kd.zR (Kd.zz (p := ⟨gb356, 1, none⟩) (Kd.qw HO365.out BK356.out (by decide)) (fun _ hk => hk.2) (.slice Ao34 y363.length co34)) (fun _ hk => trivial)⟩, ⟨by (with_reducible repeat (first | refine zk ?_ _ | refine zm ?_ | refine zh ?_ _)); refine ql ?_ NB353_356.out _; (with_reducible repeat (first | refine zk ?_ _ | refine zm ?_ | refine zh ?_ _)); exact BK353.out⟩, ⟨by (with_reducible repeat (first | refine zk ?_ _ | refine zm ?_ | refine zh ?_ _)); refine zX (cs := #[.int .i64 x357000_3, u357001]) ?_ 1 _ rfl; (with_reducible repeat (first | refine zk ?_ _ | refine zm ?_ | refine zh ?_ _)); exact BK356.out⟩, ⟨by repeat (first | (with_reducible first | exact HI0.out | apply zt.alloc | apply zt.drewN | apply zt.drew | apply zt.qQ | refine zt.far ?_ NB0_353.out _ | refine zt.far ?_ NB0_356.out _) | exact HI0.out)⟩, ⟨by repeat (first | (with_reducible first | exact HK.out | apply zC.set_ | apply zZ | apply qd | apply zY | refine qo ?_ GW353.out _ | refine qo ?_ GW356.out _) | exact HK.out)⟩, ⟨by repeat (first | (with_reducible first | exact HB.out | apply zf | apply zb | apply zg | refine zi ?_ (zt.ge HI0.out) | refine zi ?_ GE353.out | refine zi ?_ GE356.out) | exact HB.out)⟩⟩
          ·rw [if_neg c27] at H
           exact absurd H (by simp)
         ·rw [if_neg c26] at H
          have c26b0 : decide ((wrap64 (5 - (wrap64 (1 + t359)))) ≤ t361) = false := decide_eq_false c26
          clear c26
          have H' := za.mk H
          clear H
          have hnb36 := NB356_353.out
          have hnc36 := NB353_356.out
          have hnb37 := NB356_0.out
          have hnc37 := NB0_356.out
          have hcz38_0 : wr.cell? ⟨gb356, 0, none⟩ = some (.int .i64 x357000_3) := (ze BK356.out 0).trans rfl
          have hcz38_1 : wr.cell? ⟨gb356, 1, none⟩ = some (u357001) := (ze BK356.out 1).trans rfl
          have hfz38_0 := zl BK356.out 0
          have hfz38_1 := zl BK356.out 1
          go_wp2_with (first | ((with_reducible refine qc (f := 29) rfl ?_); refine qU (some 45) rfl rfl Try.func29 (by kernel_rfl) rfl #[.pointer (some ⟨g, 0, none⟩), .int .i64 5] rfl (by (try simp only [List.map_toArray, List.map_cons, List.map_nil]); first | done | rfl | (simp only [List.length_drop, List.length_take]; rfl)) ?_; (with_reducible refine (zJ.calls g s0_0 x1001_3 5 t361 t362 w0 _ ?side1 ?side2 A25.out).mono ?_); (case side1 => repeat (first | (with_reducible first | exact HI0.out | apply zt.alloc | apply zt.drewN | apply zt.drew | apply zt.qQ | refine zt.far ?_ NB0_353.out _ | refine zt.far ?_ NB0_356.out _) | exact HI0.out)); (case side2 => repeat (first | (with_reducible first | exact HB.out | apply zf | apply zb | apply zg | refine zi ?_ (zt.ge HI0.out) | refine zi ?_ GE353.out | refine zi ?_ GE356.out) | exact HB.out)); rintro e w39 ⟨rfl, hi, hb, hk⟩; refine ⟨_, rfl, ?_⟩; have n0_ := za.mk (Kd.zR (Kd.R_keep (zt.apart (show zt w0 _ g s0_0 x1001_3 from by repeat (first | (with_reducible first | exact HI0.out | apply zt.alloc | apply zt.drewN | apply zt.drew | apply zt.qQ | refine zt.far ?_ NB0_353.out _ | refine zt.far ?_ NB0_356.out _) | exact HI0.out)) (by (with_reducible repeat (first | apply Kd.zn | apply Kd.zq | apply Kd.zu)); exact HO_357001.out) (by decide)) hk (fun _ h => h.2)) (fun _ h => h.1)); have n1_ := za.mk (zC.blk hk (g' := gb353) (o := .cells #[.int .i64 0, .slice none 0 0] 29 (0, 0)) (by (with_reducible repeat (first | refine zk ?_ _ | refine zm ?_ | refine zh ?_ _)); exact BK353.out) NB353_0.out (by simp)); have n2_ := za.mk (zC.blk hk (g' := gb356) (o := .cells #[.int .i64 x357000_3, u357001] 29 (0, 0)) (by (with_reducible repeat (first | refine zk ?_ _ | refine zm ?_ | refine zh ?_ _)); exact BK356.out) NB356_0.out (by simp)); have n3_ := za.mk (zC.trans (by repeat (first | (with_reducible first | exact HK.out | apply zC.set_ | apply zZ | apply qd | apply zY | refine qo ?_ GW353.out _ | refine qo ?_ GW356.out _) | exact HK.out)) hk (.inl rfl)); have n4_ := za.mk (hb); have n5_ := za.mk (hi); clear HO_357001; clear BK353; clear BK356; clear HK; clear HB; clear HI0; have HO_357001 := n0_; have BK353 := n1_; have BK356 := n2_; have HK := n3_; have HB := n4_; have HI0 := n5_; clear n0_ n1_ n2_ n3_ n4_ n5_; (try clear hb); (try clear hb2); (try clear hk); (try clear hi)))
          go_roundg k3
          case measure => have := HJ3.out; have := HK2.out; have := HK3.out; omega
          case rel => exact ⟨(wrap64 (x8_3 + 1)), (t362), (x357001_3), (u357001), (by first | rfl | (simp; done) | (simp [*]; done)), H', ⟨by have := HJ3.out; have := HK2.out; have := HK3.out; omega⟩, ⟨by (with_reducible repeat (first | apply Kd.zn | apply Kd.zq | apply Kd.zu)); exact HO_357001.out⟩, ⟨by (with_reducible repeat (first | refine zk ?_ _ | refine zm ?_ | refine zh ?_ _)); exact BK353.out⟩, ⟨by (with_reducible repeat (first | refine zk ?_ _ | refine zm ?_ | refine zh ?_ _)); exact BK356.out⟩, ⟨by repeat (first | (with_reducible first | exact HI0.out | apply zt.alloc | apply zt.drewN | apply zt.drew | apply zt.qQ | refine zt.far ?_ NB0_353.out _ | refine zt.far ?_ NB0_356.out _) | exact HI0.out)⟩, ⟨by repeat (first | (with_reducible first | exact HK.out | apply zC.set_ | apply zZ | apply qd | apply zY | refine qo ?_ GW353.out _ | refine qo ?_ GW356.out _) | exact HK.out)⟩, ⟨by repeat (first | (with_reducible first | exact HB.out | apply zf | apply zb | apply zg | refine zi ?_ (zt.ge HI0.out) | refine zi ?_ GE353.out | refine zi ?_ GE356.out) | exact HB.out)⟩⟩
        ·rw [if_neg c24] at H
         have c24b0 : decide (x8_3 < x357000_3) = false := decide_eq_false c24
         clear c24
         have H' := za.mk H
         clear H
         have hnb40 := NB356_353.out
         have hnc40 := NB353_356.out
         have hnb41 := NB356_0.out
         have hnc41 := NB0_356.out
         have hcz42_0 : wr.cell? ⟨gb356, 0, none⟩ = some (.int .i64 x357000_3) := (ze BK356.out 0).trans rfl
         have hcz42_1 : wr.cell? ⟨gb356, 1, none⟩ = some (u357001) := (ze BK356.out 1).trans rfl
         have hfz42_0 := zl BK356.out 0
         have hfz42_1 := zl BK356.out 1
         go_wp2
         go_roundg k3
         case measure => have := HJ3.out; have := HK2.out; have := HK3.out; omega
         case rel => exact ⟨(wrap64 (x7_2 + 1)), (x1001_3), (x357001_3), (u357001), (by first | rfl | (simp; done) | (simp [*]; done)), H', ⟨by have := HJ3.out; have := HK2.out; have := HK3.out; omega⟩, ⟨by (with_reducible repeat (first | apply Kd.zn | apply Kd.zq | apply Kd.zu)); exact HO_357001.out⟩, ⟨by (with_reducible repeat (first | refine zk ?_ _ | refine zm ?_ | refine zh ?_ _)); exact BK353.out⟩, ⟨by (with_reducible repeat (first | refine zk ?_ _ | refine zm ?_ | refine zh ?_ _)); exact BK356.out⟩, ⟨by repeat (first | (with_reducible first | exact HI0.out | apply zt.alloc | apply zt.drewN | apply zt.drew | apply zt.qQ | refine zt.far ?_ NB0_353.out _ | refine zt.far ?_ NB0_356.out _) | exact HI0.out)⟩, ⟨by repeat (first | (with_reducible first | exact HK.out | apply zC.set_ | apply zZ | apply qd | apply zY | refine qo ?_ GW353.out _ | refine qo ?_ GW356.out _) | exact HK.out)⟩, ⟨by repeat (first | (with_reducible first | exact HB.out | apply zf | apply zb | apply zg | refine zi ?_ (zt.ge HI0.out) | refine zi ?_ GE353.out | refine zi ?_ GE356.out) | exact HB.out)⟩⟩
     ·rw [if_neg c20] at H
      have c20b0 : decide (x7_2 < x357000_3) = false := decide_eq_false c20
      clear c20
      simp only [Option.some.injEq, Prod.mk.injEq] at H
      obtain ⟨rfl, rfl, rfl⟩ := H
      have hnb43 := NB356_353.out
      have hnc43 := NB353_356.out
      have hnb44 := NB356_0.out
      have hnc44 := NB0_356.out
      have hcz45_0 : wr.cell? ⟨gb356, 0, none⟩ = some (.int .i64 x357000_3) := (ze BK356.out 0).trans rfl
      have hcz45_1 : wr.cell? ⟨gb356, 1, none⟩ = some (u357001) := (ze BK356.out 1).trans rfl
      have hfz45_0 := zl BK356.out 0
      have hfz45_1 := zl BK356.out 1
      have hnb46 := NB353_0.out
      have hnc46 := NB0_353.out
      have hcz47_0 : wr.cell? ⟨gb353, 0, none⟩ = some (.int .i64 0) := (ze BK353.out 0).trans rfl
      have hcz47_1 : wr.cell? ⟨gb353, 1, none⟩ = some (.slice none 0 0) := (ze BK353.out 1).trans rfl
      have hfz47_0 := zl BK353.out 0
      have hfz47_1 := zl BK353.out 1
      obtain ⟨Ao48, co48, eo48⟩ := Kd.qC HO_357001.out
      subst eo48
      go_wp2
      refine bodyPost_ret (results_cell_row rfl _ _ gb353 29 #[.int .i64 x357000_3, .slice Ao48 x357001_2.length co48] (0, 0) _ rfl (by (with_reducible repeat (first | refine zk ?_ _ | refine zm ?_ | refine zh ?_ _)); refine zX (cs := #[.int .i64 x357000_3, .slice none 0 0]) ?_ 1 _ rfl; (with_reducible repeat (first | refine zk ?_ _ | refine zm ?_ | refine zh ?_ _)); refine zX (cs := #[.int .i64 0, .slice none 0 0]) ?_ 0 _ rfl; (with_reducible repeat (first | refine zk ?_ _ | refine zm ?_ | refine zh ?_ _)); exact BK353.out) Try.underlying29 rfl (by kernel_rfl)) rfl ?_
      exact ⟨_, by first | rfl | (simp [zQ, zP] <;> rfl) | (simp [*, zQ, zP] <;> rfl), by (with_reducible repeat (first | apply Kd.zn | apply Kd.zq | apply Kd.zu)); exact Kd.zR (Kd.zz (p := ⟨gb353, 1, none⟩) (Kd.zz (p := ⟨gb353, 0, none⟩) (Kd.qw HO_357001.out BK353.out (by decide)) (fun _ hk => hk.2) (.int .i64 x357000_3)) (fun _ hk => hk.2) (.slice Ao48 x357001_2.length co48)) (fun _ hk => trivial), by repeat (first | (with_reducible first | exact HI0.out | apply zt.alloc | apply zt.drewN | apply zt.drew | apply zt.qQ | refine zt.far ?_ NB0_353.out _ | refine zt.far ?_ NB0_356.out _) | exact HI0.out), by repeat (first | (with_reducible first | exact HB.out | apply zf | apply zb | apply zg | refine zi ?_ (zt.ge HI0.out) | refine zi ?_ GE353.out | refine zi ?_ GE356.out) | exact HB.out), by repeat (first | (with_reducible first | exact HK.out | apply zC.set_ | apply zZ | apply qd | apply zY | refine qo ?_ GW353.out _ | refine qo ?_ GW356.out _) | exact HK.out)⟩
def zI.l0 : Nat → Int → Int → List Int → Int → List Int → Int → Option (List Int × Int)
 | 0, _, _, _, _, _, _ => none
 | k + 1, x1, x2, x7, x8, x1000, x1001 => if x8 < x1 then ((zJ.f x1000 x1001 x2).bind fun bt366 => (if x7.length < 17592186044416 then (zI.l0 k x1 x2 (x7 ++ [bt366.1]) (wrap64 (x8 + 1)) x1000 bt366.2) else (none))) else (some (x7, x1001))
def zI.f (k : Nat) (s0_0 : List Int) (s0_1 : Int) (a1 : Int) (a2 : Int) : Option (List Int × Int) := zI.l0 k a1 a2 ([] : List Int) 0 s0_0 s0_1
theorem zI.qV : ∀ k, (∀ y0 y1 y2 y3 y4 y5, LeO (zI.l0 k y0 y1 y2 y3 y4 y5) (zI.l0 (k + 1) y0 y1 y2 y3 y4 y5))
 | 0 => fun _ _ _ _ _ _ r h => by simp [zI.l0] at h
 | k + 1 => by
  have ih0 := zI.qV k
  ·intro y0 y1 y2 y3 y4 y5
   unfold zI.l0
   repeat' first
   | (with_reducible exact ih0 _ _ _ _ _ _)
   | (with_reducible exact LeO.refl _)
   | (with_reducible exact LeO.none _)
   | (with_reducible refine LeO.ite ?_ ?_)
   | (with_reducible refine LeO.bind ?_ (fun _ => ?_))
   | exact ih0 _ _ _ _ _ _
   | exact LeO.none _
   | refine LeO.ite ?_ ?_
   | refine LeO.bind ?_ (fun _ => ?_)
theorem zI.mono : ∀ a0 a1 a2 a3 k, LeO (zI.f k a0 a1 a2 a3) (zI.f (k + 1) a0 a1 a2 a3) := by
 intro a0 a1 a2 a3 k
 have ih0 := zI.qV k
 unfold zI.f
 repeat' first
  | (with_reducible exact ih0 _ _ _ _ _ _)
  | (with_reducible exact LeO.refl _)
  | (with_reducible exact LeO.none _)
  | (with_reducible refine LeO.ite ?_ ?_)
  | (with_reducible refine LeO.bind ?_ (fun _ => ?_))
  | exact ih0 _ _ _ _ _ _
  | exact LeO.none _
  | refine LeO.ite ?_ ?_
  | refine LeO.bind ?_ (fun _ => ?_)
set_option maxHeartbeats 8000000 in
set_option maxRecDepth 100000 in
theorem zI.calls (k : Nat) (g : Nat) (s0_0 : List Int) (s0_1 : Int) (a1 : Int) (a2 : Int) (r1 : List Int) (r2 : Int) (w0 w : World) (hI : zt w0 w g s0_0 s0_1) (hB : Below w0.heap.size w0 w) (h : zI.f k s0_0 s0_1 a1 a2 = some (r1, r2)) :
  Calls Try.prog 30 #[.pointer (some ⟨g, 0, none⟩), .int .i64 a1, .int .i64 a2] w fun e w' => ∃ v0_ : Value, e = .returned (v0_) ∧ Kd.R (Kd.int .i64) 3 w' w.heap.size (fun _ => True) v0_ r1 ∧ zt w0 w' g s0_0 r2 ∧ Below w0.heap.size w0 w' ∧ zC w w' g none := by
 have HI0 := za.mk hI
 have HK := za.mk (zC.refl w g none)
 have HL := za.mk hB.size
 clear hI
 have HW0 := za.mk hB.size
 have HB := za.mk hB
 clear hB
 have H : (zI.l0 k a1 a2 ([] : List Int) 0 s0_0 s0_1) = some (r1, r2) := h
 clear h
 have H' := za.mk H
 clear H
 go_enter Try.func30, Try.ntmps30
 go_wp2
 go_loopg [7, 8] k (fun kq v7 v8 w' => ∃ (x7_1 : List Int) (x8_1 : Int) (x1001_1 : Int), v8 = .int .i64 x8_1 ∧ za (zI.l0 kq a1 a2 x7_1 x8_1 s0_0 x1001_1 = some (r1, r2)) ∧ za (kq ≤ k) ∧ za (Kd.R (Kd.int .i64) 3 w' w.heap.size (fun _ => True) v7 x7_1) ∧ za (zt w0 w' g s0_0 x1001_1) ∧ za (zC w w' g none) ∧ za (Below w0.heap.size w0 w'))
 case atStart => exact ⟨(([] : List Int)), (0), (s0_1), (by first | rfl | (simp; done) | (simp [*]; done)), H', ⟨Nat.le_refl _⟩, ⟨by first | exact Kd.ZO _ _ _ _ _ | exact Kd.N_nil _ _ _ _ _ | exact Kd.V_nil _ _ _ _ _ | exact Kd.Q_nil _ _ _ _ _ | exact Kd.S_nil _ _ _ _ _⟩, ⟨by repeat (first | (with_reducible first | exact HI0.out | apply zt.alloc | apply zt.drewN | apply zt.drew | apply zt.qQ) | exact HI0.out)⟩, ⟨by repeat (first | (with_reducible first | exact HK.out | apply zC.set_ | apply zZ | apply qd | apply zY) | exact HK.out)⟩, ⟨by repeat (first | (with_reducible first | exact HB.out | apply zf | apply zb | apply zg | refine zi ?_ (zt.ge HI0.out)) | exact HB.out)⟩⟩
 case round =>
  clear H'
  try clear p2
  try clear c3
  obtain ⟨x7_1, x8_1, x1001_1, rfl, HA, HK1, HO_7, HI0, HK, HB⟩ := hrel
  cases gk with
  | zero => exact absurd HA.out (by simp [zI.l0])
  | succ k1 =>
   have H := HA.out
   clear HA
   simp only [zI.l0] at H
   by_cases c4 : x8_1 < a1
   ·rw [if_pos c4] at H
    have c4b0 : decide (x8_1 < a1) = true := decide_eq_true c4
    clear c4
    replace H := Option.bind_eq_some_iff.mp H
    obtain ⟨⟨t366, t367⟩, A50, H⟩ := H
    replace H : (if x7_1.length < 17592186044416 then (zI.l0 k1 a1 a2 (x7_1 ++ [t366]) (wrap64 (x8_1 + 1)) s0_0 t367) else (none)) = some (r1, r2) := H
    have A5 := za.mk A50
    clear A50
    by_cases c6 : x7_1.length < 17592186044416
    ·rw [if_pos c6] at H
     have LMc6 := za.mk c6
     clear c6
     obtain ⟨y368, hy368⟩ : ∃ y_ : List Int, y_ = (x7_1 ++ [t366]) := ⟨_, rfl⟩
     replace H : (zI.l0 k1 a1 a2 y368 (wrap64 (x8_1 + 1)) s0_0 t367) = some (r1, r2) := by first | (rw [hy368]; with_reducible exact H) | (have H2_ := (Option.bind_some _ _).symm.trans H; rw [hy368]; with_reducible exact H2_) | (have H2_ := (Option.bind_some _ _).symm.trans H; with_reducible exact H2_) | with_reducible exact H | (rw [hy368]; exact H) | exact H
     have Ny368 := za.mk hy368
     clear hy368
     have H' := za.mk H
     clear H
     go_wp2_with (first | ((with_reducible refine qc (f := 29) rfl ?_); refine qU (some 17) rfl rfl Try.func29 (by kernel_rfl) rfl #[.pointer (some ⟨g, 0, none⟩), .int .i64 a2] rfl (by (try simp only [List.map_toArray, List.map_cons, List.map_nil]); first | done | rfl | (simp only [List.length_drop, List.length_take]; rfl)) ?_; (with_reducible refine (zJ.calls g s0_0 x1001_1 a2 t366 t367 w0 _ ?side1 ?side2 A5.out).mono ?_); (case side1 => repeat (first | (with_reducible first | exact HI0.out | apply zt.alloc | apply zt.drewN | apply zt.drew | apply zt.qQ) | exact HI0.out)); (case side2 => repeat (first | (with_reducible first | exact HB.out | apply zf | apply zb | apply zg | refine zi ?_ (zt.ge HI0.out)) | exact HB.out)); rintro e w7 ⟨rfl, hi, hb, hk⟩; refine ⟨_, rfl, ?_⟩; have n0_ := za.mk (Kd.zR (Kd.R_keep (zt.apart (show zt w0 _ g s0_0 x1001_1 from by repeat (first | (with_reducible first | exact HI0.out | apply zt.alloc | apply zt.drewN | apply zt.drew | apply zt.qQ) | exact HI0.out)) (by (with_reducible repeat (first | apply Kd.zn | apply Kd.zq | apply Kd.zu)); exact HO_7.out) (by decide)) hk (fun _ h => h.2)) (fun _ h => h.1)); have n1_ := za.mk (zC.trans (by repeat (first | (with_reducible first | exact HK.out | apply zC.set_ | apply zZ | apply qd | apply zY) | exact HK.out)) hk (.inl rfl)); have n2_ := za.mk (hb); have n3_ := za.mk (hi); clear HO_7; clear HK; clear HB; clear HI0; have HO_7 := n0_; have HK := n1_; have HB := n2_; have HI0 := n3_; clear n0_ n1_ n2_ n3_; (try clear hb); (try clear hb2); (try clear hk); (try clear hi)) | ((with_reducible refine Zb (b := .append) (xs := #[.tmp 14, .tmp 18]) rfl ?_); at_builtin; refine Kd.ZU (Kd.int .i64) w.heap.size rfl (.tmp 14) (.tmp 18) 22 3 (.int .i64 0) 8 rfl Try.underlying22 info3 rfl (by decide) (by omega) u7 x7_1 t366 [.int .i64 t366] (fun _ => True) (fun _ => False) rfl rfl ?aP (fun _ hk => hk.elim) ?aF ?aO (Below.refl _ _) ?aS ?aL ?_; (case aP => exact rfl); (case aF => exact (fun _ _ => trivial)); (case aO => exact (by (with_reducible repeat (first | apply Kd.zn | apply Kd.zq | apply Kd.zu)); exact HO_7.out)); (case aS => exact (Zi (w := w) (g := g) (row := none) (by repeat (first | (with_reducible first | exact HK.out | apply zC.set_ | apply zZ | apply qd | apply zY) | exact HK.out)))); (case aL => have := LMc6.out; omega); intro v369 w8 ho hb hg hat; rw [← Ny368.out] at ho; have n0_ := za.mk (zt.grown (by repeat (first | (with_reducible first | exact HI0.out | apply zt.alloc | apply zt.drewN | apply zt.drew | apply zt.qQ) | exact HI0.out)) hg (zt.own_ne HI0.out HO_7.out (by decide))); have n1_ := za.mk (below_weaken (by repeat (first | (with_reducible first | exact HB.out | apply zf | apply zb | apply zg | refine zi ?_ (zt.ge HI0.out)) | exact HB.out)) HL.out hb); have n2_ := za.mk (zC.trans (by repeat (first | (with_reducible first | exact HK.out | apply zC.set_ | apply zZ | apply qd | apply zY) | exact HK.out)) (zC.Qf hg g) (Kd.R_base2 HO_7.out)); have n3_ := za.mk (ho); clear HI0; clear HB; clear HK; clear HO_7; have HI0 := n0_; have HB := n1_; have HK := n2_; have HO370 := n3_; clear n0_ n1_ n2_ n3_; clear ho hb hg hat))
     go_roundg k1
     case measure => have := HK1.out; omega
     case rel => exact ⟨(y368), (wrap64 (x8_1 + 1)), (t367), (by first | rfl | (simp; done) | (simp [*]; done)), H', ⟨by have := HK1.out; omega⟩, ⟨by (with_reducible repeat (first | apply Kd.zn | apply Kd.zq | apply Kd.zu)); exact HO370.out⟩, ⟨by repeat (first | (with_reducible first | exact HI0.out | apply zt.alloc | apply zt.drewN | apply zt.drew | apply zt.qQ) | exact HI0.out)⟩, ⟨by repeat (first | (with_reducible first | exact HK.out | apply zC.set_ | apply zZ | apply qd | apply zY) | exact HK.out)⟩, ⟨by repeat (first | (with_reducible first | exact HB.out | apply zf | apply zb | apply zg | refine zi ?_ (zt.ge HI0.out)) | exact HB.out)⟩⟩
    ·rw [if_neg c6] at H
     exact absurd H (by simp)
   ·rw [if_neg c4] at H
    have c4b0 : decide (x8_1 < a1) = false := decide_eq_false c4
    clear c4
    simp only [Option.some.injEq, Prod.mk.injEq] at H
    obtain ⟨rfl, rfl⟩ := H
    go_wp2
    go_ret
    exact ⟨_, by first | rfl | (simp [zQ, zP] <;> rfl) | (simp [*, zQ, zP] <;> rfl), by (with_reducible repeat (first | apply Kd.zn | apply Kd.zq | apply Kd.zu)); exact HO_7.out, by repeat (first | (with_reducible first | exact HI0.out | apply zt.alloc | apply zt.drewN | apply zt.drew | apply zt.qQ) | exact HI0.out), by repeat (first | (with_reducible first | exact HB.out | apply zf | apply zb | apply zg | refine zi ?_ (zt.ge HI0.out)) | exact HB.out), by repeat (first | (with_reducible first | exact HK.out | apply zC.set_ | apply zZ | apply qd | apply zY) | exact HK.out)⟩
def zV.l0 : Nat → Int → List Int → Int → List Int → Int → Option (List Int × Int)
 | 0, _, _, _, _, _ => none
 | k + 1, x1, x5, x6, x1000, x1001 => if x6 < x1 then ((zJ.f x1000 x1001 2).bind fun bt371 => (if bt371.1 = 1 then (if x5.length < 17592186044416 then (zV.l0 k x1 (x5 ++ [x6]) (wrap64 (x6 + 1)) x1000 bt371.2) else (none)) else (zV.l0 k x1 x5 (wrap64 (x6 + 1)) x1000 bt371.2))) else (some (x5, x1001))
def zV.f (k : Nat) (s0_0 : List Int) (s0_1 : Int) (a1 : Int) : Option (List Int × Int) := zV.l0 k a1 ([] : List Int) 0 s0_0 s0_1
theorem zV.qV : ∀ k, (∀ y0 y1 y2 y3 y4, LeO (zV.l0 k y0 y1 y2 y3 y4) (zV.l0 (k + 1) y0 y1 y2 y3 y4))
 | 0 => fun _ _ _ _ _ r h => by simp [zV.l0] at h
 | k + 1 => by
  have ih0 := zV.qV k
  ·intro y0 y1 y2 y3 y4
   unfold zV.l0
   repeat' first
   | (with_reducible exact ih0 _ _ _ _ _)
   | (with_reducible exact LeO.refl _)
   | (with_reducible exact LeO.none _)
   | (with_reducible refine LeO.ite ?_ ?_)
   | (with_reducible refine LeO.bind ?_ (fun _ => ?_))
   | exact ih0 _ _ _ _ _
   | exact LeO.none _
   | refine LeO.ite ?_ ?_
   | refine LeO.bind ?_ (fun _ => ?_)
theorem zV.mono : ∀ a0 a1 a2 k, LeO (zV.f k a0 a1 a2) (zV.f (k + 1) a0 a1 a2) := by
 intro a0 a1 a2 k
 have ih0 := zV.qV k
 unfold zV.f
 repeat' first
  | (with_reducible exact ih0 _ _ _ _ _)
  | (with_reducible exact LeO.refl _)
  | (with_reducible exact LeO.none _)
  | (with_reducible refine LeO.ite ?_ ?_)
  | (with_reducible refine LeO.bind ?_ (fun _ => ?_))
  | exact ih0 _ _ _ _ _
  | exact LeO.none _
  | refine LeO.ite ?_ ?_
  | refine LeO.bind ?_ (fun _ => ?_)
set_option maxHeartbeats 8000000 in
set_option maxRecDepth 100000 in
theorem zV.calls (k : Nat) (g : Nat) (s0_0 : List Int) (s0_1 : Int) (a1 : Int) (r1 : List Int) (r2 : Int) (w0 w : World) (hI : zt w0 w g s0_0 s0_1) (hB : Below w0.heap.size w0 w) (h : zV.f k s0_0 s0_1 a1 = some (r1, r2)) :
  Calls Try.prog 31 #[.pointer (some ⟨g, 0, none⟩), .int .i64 a1] w fun e w' => ∃ v0_ : Value, e = .returned (v0_) ∧ Kd.R (Kd.int .i64) 3 w' w.heap.size (fun _ => True) v0_ r1 ∧ zt w0 w' g s0_0 r2 ∧ Below w0.heap.size w0 w' ∧ zC w w' g none := by
 have HI0 := za.mk hI
 have HK := za.mk (zC.refl w g none)
 have HL := za.mk hB.size
 clear hI
 have HW0 := za.mk hB.size
 have HB := za.mk hB
 clear hB
 have H : (zV.l0 k a1 ([] : List Int) 0 s0_0 s0_1) = some (r1, r2) := h
 clear h
 have H' := za.mk H
 clear H
 go_enter Try.func31, Try.ntmps31
 go_wp2
 go_loopg [5, 6] k (fun kq v5 v6 w' => ∃ (x5_1 : List Int) (x6_1 : Int) (x1001_1 : Int), v6 = .int .i64 x6_1 ∧ za (zV.l0 kq a1 x5_1 x6_1 s0_0 x1001_1 = some (r1, r2)) ∧ za (kq ≤ k) ∧ za (Kd.R (Kd.int .i64) 3 w' w.heap.size (fun _ => True) v5 x5_1) ∧ za (zt w0 w' g s0_0 x1001_1) ∧ za (zC w w' g none) ∧ za (Below w0.heap.size w0 w'))
 case atStart => exact ⟨(([] : List Int)), (0), (s0_1), (by first | rfl | (simp; done) | (simp [*]; done)), H', ⟨Nat.le_refl _⟩, ⟨by first | exact Kd.ZO _ _ _ _ _ | exact Kd.N_nil _ _ _ _ _ | exact Kd.V_nil _ _ _ _ _ | exact Kd.Q_nil _ _ _ _ _ | exact Kd.S_nil _ _ _ _ _⟩, ⟨by repeat (first | (with_reducible first | exact HI0.out | apply zt.alloc | apply zt.drewN | apply zt.drew | apply zt.qQ) | exact HI0.out)⟩, ⟨by repeat (first | (with_reducible first | exact HK.out | apply zC.set_ | apply zZ | apply qd | apply zY) | exact HK.out)⟩, ⟨by repeat (first | (with_reducible first | exact HB.out | apply zf | apply zb | apply zg | refine zi ?_ (zt.ge HI0.out)) | exact HB.out)⟩⟩
 case round =>
  clear H'
  try clear p2
  obtain ⟨x5_1, x6_1, x1001_1, rfl, HA, HK1, HO_5, HI0, HK, HB⟩ := hrel
  cases gk with
  | zero => exact absurd HA.out (by simp [zV.l0])
  | succ k1 =>
   have H := HA.out
   clear HA
   simp only [zV.l0] at H
   by_cases c3 : x6_1 < a1
   ·rw [if_pos c3] at H
    have c3b0 : decide (x6_1 < a1) = true := decide_eq_true c3
    clear c3
    replace H := Option.bind_eq_some_iff.mp H
    obtain ⟨⟨t371, t372⟩, A40, H⟩ := H
    replace H : (if t371 = 1 then (if x5_1.length < 17592186044416 then (zV.l0 k1 a1 (x5_1 ++ [x6_1]) (wrap64 (x6_1 + 1)) s0_0 t372) else (none)) else (zV.l0 k1 a1 x5_1 (wrap64 (x6_1 + 1)) s0_0 t372)) = some (r1, r2) := H
    have A4 := za.mk A40
    clear A40
    by_cases c5 : t371 = 1
    ·rw [if_pos c5] at H
     have c5b0 : (t371 == 1) = true := beq_iff_eq.mpr c5
     have c5b1 : (t371 != 1) = false := bne_eq_false_iff_eq.mpr c5
     clear c5
     by_cases c6 : x5_1.length < 17592186044416
     ·rw [if_pos c6] at H
      have LMc6 := za.mk c6
      clear c6
      obtain ⟨y373, hy373⟩ : ∃ y_ : List Int, y_ = (x5_1 ++ [x6_1]) := ⟨_, rfl⟩
      replace H : (zV.l0 k1 a1 y373 (wrap64 (x6_1 + 1)) s0_0 t372) = some (r1, r2) := by first | (rw [hy373]; with_reducible exact H) | (have H2_ := (Option.bind_some _ _).symm.trans H; rw [hy373]; with_reducible exact H2_) | (have H2_ := (Option.bind_some _ _).symm.trans H; with_reducible exact H2_) | with_reducible exact H | (rw [hy373]; exact H) | exact H
      have Ny373 := za.mk hy373
      clear hy373
      have H' := za.mk H
      clear H
      go_wp2_with (first | ((with_reducible refine qc (f := 29) rfl ?_); refine qU (some 13) rfl rfl Try.func29 (by kernel_rfl) rfl #[.pointer (some ⟨g, 0, none⟩), .int .i64 2] rfl (by (try simp only [List.map_toArray, List.map_cons, List.map_nil]); first | done | rfl | (simp only [List.length_drop, List.length_take]; rfl)) ?_; (with_reducible refine (zJ.calls g s0_0 x1001_1 2 t371 t372 w0 _ ?side1 ?side2 A4.out).mono ?_); (case side1 => repeat (first | (with_reducible first | exact HI0.out | apply zt.alloc | apply zt.drewN | apply zt.drew | apply zt.qQ) | exact HI0.out)); (case side2 => repeat (first | (with_reducible first | exact HB.out | apply zf | apply zb | apply zg | refine zi ?_ (zt.ge HI0.out)) | exact HB.out)); rintro e w7 ⟨rfl, hi, hb, hk⟩; refine ⟨_, rfl, ?_⟩; have n0_ := za.mk (Kd.zR (Kd.R_keep (zt.apart (show zt w0 _ g s0_0 x1001_1 from by repeat (first | (with_reducible first | exact HI0.out | apply zt.alloc | apply zt.drewN | apply zt.drew | apply zt.qQ) | exact HI0.out)) (by (with_reducible repeat (first | apply Kd.zn | apply Kd.zq | apply Kd.zu)); exact HO_5.out) (by decide)) hk (fun _ h => h.2)) (fun _ h => h.1)); have n1_ := za.mk (zC.trans (by repeat (first | (with_reducible first | exact HK.out | apply zC.set_ | apply zZ | apply qd | apply zY) | exact HK.out)) hk (.inl rfl)); have n2_ := za.mk (hb); have n3_ := za.mk (hi); clear HO_5; clear HK; clear HB; clear HI0; have HO_5 := n0_; have HK := n1_; have HB := n2_; have HI0 := n3_; clear n0_ n1_ n2_ n3_; (try clear hb); (try clear hb2); (try clear hk); (try clear hi)) | ((with_reducible refine Zb (b := .append) (xs := #[.tmp 15, .tmp 17]) rfl ?_); at_builtin; refine Kd.ZU (Kd.int .i64) w.heap.size rfl (.tmp 15) (.tmp 17) 22 3 (.int .i64 0) 8 rfl Try.underlying22 info3 rfl (by decide) (by omega) u5 x5_1 x6_1 [.int .i64 x6_1] (fun _ => True) (fun _ => False) rfl rfl ?aP (fun _ hk => hk.elim) ?aF ?aO (Below.refl _ _) ?aS ?aL ?_; (case aP => exact rfl); (case aF => exact (fun _ _ => trivial)); (case aO => exact (by (with_reducible repeat (first | apply Kd.zn | apply Kd.zq | apply Kd.zu)); exact HO_5.out)); (case aS => exact (Zi (w := w) (g := g) (row := none) (by repeat (first | (with_reducible first | exact HK.out | apply zC.set_ | apply zZ | apply qd | apply zY) | exact HK.out)))); (case aL => have := LMc6.out; omega); intro v374 w8 ho hb hg hat; rw [← Ny373.out] at ho; have n0_ := za.mk (zt.grown (by repeat (first | (with_reducible first | exact HI0.out | apply zt.alloc | apply zt.drewN | apply zt.drew | apply zt.qQ) | exact HI0.out)) hg (zt.own_ne HI0.out HO_5.out (by decide))); have n1_ := za.mk (below_weaken (by repeat (first | (with_reducible first | exact HB.out | apply zf | apply zb | apply zg | refine zi ?_ (zt.ge HI0.out)) | exact HB.out)) HL.out hb); have n2_ := za.mk (zC.trans (by repeat (first | (with_reducible first | exact HK.out | apply zC.set_ | apply zZ | apply qd | apply zY) | exact HK.out)) (zC.Qf hg g) (Kd.R_base2 HO_5.out)); have n3_ := za.mk (ho); clear HI0; clear HB; clear HK; clear HO_5; have HI0 := n0_; have HB := n1_; have HK := n2_; have HO375 := n3_; clear n0_ n1_ n2_ n3_; clear ho hb hg hat))
      go_roundg k1
      case measure => have := HK1.out; omega
      case rel => exact ⟨(y373), (wrap64 (x6_1 + 1)), (t372), (by first | rfl | (simp; done) | (simp [*]; done)), H', ⟨by have := HK1.out; omega⟩, ⟨by (with_reducible repeat (first | apply Kd.zn | apply Kd.zq | apply Kd.zu)); exact HO375.out⟩, ⟨by repeat (first | (with_reducible first | exact HI0.out | apply zt.alloc | apply zt.drewN | apply zt.drew | apply zt.qQ) | exact HI0.out)⟩, ⟨by repeat (first | (with_reducible first | exact HK.out | apply zC.set_ | apply zZ | apply qd | apply zY) | exact HK.out)⟩, ⟨by repeat (first | (with_reducible first | exact HB.out | apply zf | apply zb | apply zg | refine zi ?_ (zt.ge HI0.out)) | exact HB.out)⟩⟩
     ·rw [if_neg c6] at H
      exact absurd H (by simp)
    ·rw [if_neg c5] at H
     have c5b0 : (t371 == 1) = false := beq_eq_false_iff_ne.mpr c5
     have c5b1 : (t371 != 1) = true := bne_iff_ne.mpr c5
     have H' := za.mk H
     clear H
     go_wp2_with (first | ((with_reducible refine qc (f := 29) rfl ?_); refine qU (some 13) rfl rfl Try.func29 (by kernel_rfl) rfl #[.pointer (some ⟨g, 0, none⟩), .int .i64 2] rfl (by (try simp only [List.map_toArray, List.map_cons, List.map_nil]); first | done | rfl | (simp only [List.length_drop, List.length_take]; rfl)) ?_; (with_reducible refine (zJ.calls g s0_0 x1001_1 2 t371 t372 w0 _ ?side1 ?side2 A4.out).mono ?_); (case side1 => repeat (first | (with_reducible first | exact HI0.out | apply zt.alloc | apply zt.drewN | apply zt.drew | apply zt.qQ) | exact HI0.out)); (case side2 => repeat (first | (with_reducible first | exact HB.out | apply zf | apply zb | apply zg | refine zi ?_ (zt.ge HI0.out)) | exact HB.out)); rintro e w9 ⟨rfl, hi, hb, hk⟩; refine ⟨_, rfl, ?_⟩; have n0_ := za.mk (Kd.zR (Kd.R_keep (zt.apart (show zt w0 _ g s0_0 x1001_1 from by repeat (first | (with_reducible first | exact HI0.out | apply zt.alloc | apply zt.drewN | apply zt.drew | apply zt.qQ) | exact HI0.out)) (by (with_reducible repeat (first | apply Kd.zn | apply Kd.zq | apply Kd.zu)); exact HO_5.out) (by decide)) hk (fun _ h => h.2)) (fun _ h => h.1)); have n1_ := za.mk (zC.trans (by repeat (first | (with_reducible first | exact HK.out | apply zC.set_ | apply zZ | apply qd | apply zY) | exact HK.out)) hk (.inl rfl)); have n2_ := za.mk (hb); have n3_ := za.mk (hi); clear HO_5; clear HK; clear HB; clear HI0; have HO_5 := n0_; have HK := n1_; have HB := n2_; have HI0 := n3_; clear n0_ n1_ n2_ n3_; (try clear hb); (try clear hb2); (try clear hk); (try clear hi)))
     go_roundg k1
     case measure => have := HK1.out; omega
     case rel => exact ⟨(x5_1), (wrap64 (x6_1 + 1)), (t372), (by first | rfl | (simp; done) | (simp [*]; done)), H', ⟨by have := HK1.out; omega⟩, ⟨by (with_reducible repeat (first | apply Kd.zn | apply Kd.zq | apply Kd.zu)); exact HO_5.out⟩, ⟨by repeat (first | (with_reducible first | exact HI0.out | apply zt.alloc | apply zt.drewN | apply zt.drew | apply zt.qQ) | exact HI0.out)⟩, ⟨by repeat (first | (with_reducible first | exact HK.out | apply zC.set_ | apply zZ | apply qd | apply zY) | exact HK.out)⟩, ⟨by repeat (first | (with_reducible first | exact HB.out | apply zf | apply zb | apply zg | refine zi ?_ (zt.ge HI0.out)) | exact HB.out)⟩⟩
   ·rw [if_neg c3] at H
    have c3b0 : decide (x6_1 < a1) = false := decide_eq_false c3
    clear c3
    simp only [Option.some.injEq, Prod.mk.injEq] at H
    obtain ⟨rfl, rfl⟩ := H
    go_wp2
    go_ret
    exact ⟨_, by first | rfl | (simp [zQ, zP] <;> rfl) | (simp [*, zQ, zP] <;> rfl), by (with_reducible repeat (first | apply Kd.zn | apply Kd.zq | apply Kd.zu)); exact HO_5.out, by repeat (first | (with_reducible first | exact HI0.out | apply zt.alloc | apply zt.drewN | apply zt.drew | apply zt.qQ) | exact HI0.out), by repeat (first | (with_reducible first | exact HB.out | apply zf | apply zb | apply zg | refine zi ?_ (zt.ge HI0.out)) | exact HB.out), by repeat (first | (with_reducible first | exact HK.out | apply zC.set_ | apply zZ | apply qd | apply zY) | exact HK.out)⟩
def qf.f (k : Nat) (s0_0 : List Int) (s0_1 : Int) (a1 : Int) : Option (Int × List Int × List Int × Int) := (zJ.f s0_0 s0_1 4).bind fun bt377 => ((zI.f k s0_0 bt377.2 a1 (wrap64 (1 + bt377.1))).bind fun bt380 => ((zJ.f s0_0 bt380.2 2).bind fun bt384 => (if bt384.1 = 1 then ((zV.f k s0_0 bt384.2 a1).bind fun bt386 => (some (wrap64 (1 + bt377.1), bt380.1, bt386.1, bt386.2))) else (some (wrap64 (1 + bt377.1), bt380.1, ([] : List Int), bt384.2)))))
theorem qf.mono : ∀ a0 a1 a2 k, LeO (qf.f k a0 a1 a2) (qf.f (k + 1) a0 a1 a2) := by
 intro a0 a1 a2 k
 unfold qf.f
 repeat' first
  | (with_reducible exact zI.mono _ _ _ _ _)
  | (with_reducible exact zV.mono _ _ _ _)
  | (with_reducible exact LeO.refl _)
  | (with_reducible exact LeO.none _)
  | (with_reducible refine LeO.ite ?_ ?_)
  | (with_reducible refine LeO.bind ?_ (fun _ => ?_))
  | exact zI.mono _ _ _ _ _
  | exact zV.mono _ _ _ _
  | exact LeO.none _
  | refine LeO.ite ?_ ?_
  | refine LeO.bind ?_ (fun _ => ?_)
set_option maxHeartbeats 8000000 in
set_option maxRecDepth 100000 in
theorem qf.calls (k : Nat) (g : Nat) (s0_0 : List Int) (s0_1 : Int) (a1 : Int) (r1 : Int) (r2 : List Int) (r3 : List Int) (r4 : Int) (w0 w : World) (hI : zt w0 w g s0_0 s0_1) (hB : Below w0.heap.size w0 w) (h : qf.f k s0_0 s0_1 a1 = some (r1, r2, r3, r4)) :
  Calls Try.prog 12 #[.pointer (some ⟨g, 0, none⟩), .int .i64 a1] w fun e w' => ∃ v1_ v2_ : Value, e = .returned (.agg #[.int .i64 r1, v1_, v2_]) ∧ Kd.R (Kd.int .i64) 3 w' w.heap.size (fun k_ => some k_ ≠ (v2_ : Value).ownBlock) v1_ r2 ∧ Kd.R (Kd.int .i64) 3 w' w.heap.size (fun k_ => some k_ ≠ (v1_ : Value).ownBlock) v2_ r3 ∧ zt w0 w' g s0_0 r4 ∧ Below w0.heap.size w0 w' ∧ zC w w' g none := by
 have hu32 := Try.underlying32
 have HI0 := za.mk hI
 have HK := za.mk (zC.refl w g none)
 have HL := za.mk hB.size
 clear hI
 have HW0 := za.mk hB.size
 have HB := za.mk hB
 clear hB
 have H : ((zJ.f s0_0 s0_1 4).bind fun bt377 => ((zI.f k s0_0 bt377.2 a1 (wrap64 (1 + bt377.1))).bind fun bt380 => ((zJ.f s0_0 bt380.2 2).bind fun bt384 => (if bt384.1 = 1 then ((zV.f k s0_0 bt384.2 a1).bind fun bt386 => (some (wrap64 (1 + bt377.1), bt380.1, bt386.1, bt386.2))) else (some (wrap64 (1 + bt377.1), bt380.1, ([] : List Int), bt384.2)))))) = some (r1, r2, r3, r4) := h
 clear h
 replace H := Option.bind_eq_some_iff.mp H
 obtain ⟨⟨t377, t378⟩, A30, H⟩ := H
 replace H : ((zI.f k s0_0 t378 a1 (wrap64 (1 + t377))).bind fun bt380 => ((zJ.f s0_0 bt380.2 2).bind fun bt384 => (if bt384.1 = 1 then ((zV.f k s0_0 bt384.2 a1).bind fun bt386 => (some (wrap64 (1 + t377), bt380.1, bt386.1, bt386.2))) else (some (wrap64 (1 + t377), bt380.1, ([] : List Int), bt384.2))))) = some (r1, r2, r3, r4) := H
 have A3 := za.mk A30
 clear A30
 replace H := Option.bind_eq_some_iff.mp H
 obtain ⟨⟨t380, t383⟩, A40, H⟩ := H
 replace H : ((zJ.f s0_0 t383 2).bind fun bt384 => (if bt384.1 = 1 then ((zV.f k s0_0 bt384.2 a1).bind fun bt386 => (some (wrap64 (1 + t377), t380, bt386.1, bt386.2))) else (some (wrap64 (1 + t377), t380, ([] : List Int), bt384.2)))) = some (r1, r2, r3, r4) := H
 have A4 := za.mk A40
 clear A40
 replace H := Option.bind_eq_some_iff.mp H
 obtain ⟨⟨t384, t385⟩, A50, H⟩ := H
 replace H : (if t384 = 1 then ((zV.f k s0_0 t385 a1).bind fun bt386 => (some (wrap64 (1 + t377), t380, bt386.1, bt386.2))) else (some (wrap64 (1 + t377), t380, ([] : List Int), t385))) = some (r1, r2, r3, r4) := H
 have A5 := za.mk A50
 clear A50
 by_cases c6 : t384 = 1
 ·rw [if_pos c6] at H
  have c6b0 : (t384 == 1) = true := beq_iff_eq.mpr c6
  have c6b1 : (t384 != 1) = false := bne_eq_false_iff_eq.mpr c6
  clear c6
  replace H := Option.bind_eq_some_iff.mp H
  obtain ⟨⟨t386, t389⟩, A70, H⟩ := H
  replace H : (some (wrap64 (1 + t377), t380, t386, t389)) = some (r1, r2, r3, r4) := H
  have A7 := za.mk A70
  clear A70
  simp only [Option.some.injEq, Prod.mk.injEq] at H
  obtain ⟨rfl, rfl, rfl, rfl⟩ := H
  go_enter Try.func12, Try.ntmps12
  go_wp2_with (first | ((with_reducible refine qJ (N := 4) rfl ?_); refine qI ?hg (N := 4) ?hd (cs := #[.int .i64 0, .slice none 0 0, .slice none 0 0]) (t := 32) ?hr ?_; (case hd => rfl); (case hg => rfl); (case hr => first | (go_simp; done) | (go_simp; rfl)); intro gb376 hg w8 hbox hb; have n0_ := za.mk (zt.below (by repeat (first | (with_reducible first | exact HI0.out | apply zt.alloc | apply zt.drewN | apply zt.drew | apply zt.qQ) | exact HI0.out)) hb); have n1_ := za.mk (zC.trans (by repeat (first | (with_reducible first | exact HK.out | apply zC.set_ | apply zZ | apply qd | apply zY) | exact HK.out)) (zC.of_below hb g none) (.inl rfl)); have n2_ := za.mk (zT (by repeat (first | (with_reducible first | exact HB.out | apply zf | apply zb | apply zg | refine zi ?_ (zt.ge HI0.out)) | exact HB.out)) hb); have n3_ := za.mk (hbox); have n4_ := za.mk ((by rw [hg]; exact (Zi (w := w) (g := g) (row := none) (by repeat (first | (with_reducible first | exact HK.out | apply zC.set_ | apply zZ | apply qd | apply zY) | exact HK.out))) : w.heap.size ≤ gb376)); have n5_ := za.mk ((Nat.le_trans HW0.out (by rw [hg]; exact (Zi (w := w) (g := g) (row := none) (by repeat (first | (with_reducible first | exact HK.out | apply zC.set_ | apply zZ | apply qd | apply zY) | exact HK.out))) : w.heap.size ≤ gb376) : w0.heap.size ≤ gb376)); have n6_ := za.mk ((by rw [hg]; exact Nat.ne_of_lt (zt.lt (show zt w0 _ g s0_0 s0_1 from by repeat (first | (with_reducible first | exact HI0.out | apply zt.alloc | apply zt.drewN | apply zt.drew | apply zt.qQ) | exact HI0.out))) : g ≠ gb376)); have n7_ := za.mk ((by rw [hg]; exact Nat.ne_of_gt (zt.lt (show zt w0 _ g s0_0 s0_1 from by repeat (first | (with_reducible first | exact HI0.out | apply zt.alloc | apply zt.drewN | apply zt.drew | apply zt.qQ) | exact HI0.out))) : gb376 ≠ g)); clear HI0; clear HK; clear HB; have HI0 := n0_; have HK := n1_; have HB := n2_; have BK376 := n3_; have GW376 := n4_; have GE376 := n5_; have NB0_376 := n6_; have NB376_0 := n7_; clear n0_ n1_ n2_ n3_ n4_ n5_ n6_ n7_; clear hb hbox hg) | ((with_reducible refine qc (f := 29) rfl ?_); refine qU (some 7) rfl rfl Try.func29 (by kernel_rfl) rfl #[.pointer (some ⟨g, 0, none⟩), .int .i64 4] rfl (by (try simp only [List.map_toArray, List.map_cons, List.map_nil]); first | done | rfl | (simp only [List.length_drop, List.length_take]; rfl)) ?_; (with_reducible refine (zJ.calls g s0_0 s0_1 4 t377 t378 w0 _ ?side1 ?side2 A3.out).mono ?_); (case side1 => repeat (first | (with_reducible first | exact HI0.out | apply zt.alloc | apply zt.drewN | apply zt.drew | apply zt.qQ | refine zt.far ?_ NB0_376.out _) | exact HI0.out)); (case side2 => repeat (first | (with_reducible first | exact HB.out | apply zf | apply zb | apply zg | refine zi ?_ (zt.ge HI0.out) | refine zi ?_ GE376.out) | exact HB.out)); rintro e w9 ⟨rfl, hi, hb, hk⟩; refine ⟨_, rfl, ?_⟩; have n0_ := za.mk (zC.blk hk (g' := gb376) (o := .cells #[.int .i64 0, .slice none 0 0, .slice none 0 0] 32 (0, 0)) (by (with_reducible repeat (first | refine zk ?_ _ | refine zm ?_ | refine zh ?_ _)); exact BK376.out) NB376_0.out (by simp)); have n1_ := za.mk (zC.trans (by repeat (first | (with_reducible first | exact HK.out | apply zC.set_ | apply zZ | apply qd | apply zY | refine qo ?_ GW376.out _) | exact HK.out)) hk (.inl rfl)); have n2_ := za.mk (hb); have n3_ := za.mk (hi); clear BK376; clear HK; clear HB; clear HI0; have BK376 := n0_; have HK := n1_; have HB := n2_; have HI0 := n3_; clear n0_ n1_ n2_ n3_; (try clear hb); (try clear hb2); (try clear hk); (try clear hi)) | ((with_reducible refine qJ (N := 5) rfl ?_); refine qI ?hg (N := 5) ?hd (cs := #[.int .i64 0, .slice none 0 0, .slice none 0 0]) (t := 32) ?hr ?_; (case hd => rfl); (case hg => rfl); (case hr => first | (go_simp; done) | (go_simp; rfl)); intro gb379 hg w10 hbox hb; have n0_ := za.mk (zt.below (by repeat (first | (with_reducible first | exact HI0.out | apply zt.alloc | apply zt.drewN | apply zt.drew | apply zt.qQ | refine zt.far ?_ NB0_376.out _) | exact HI0.out)) hb); have n1_ := za.mk (zW (g := gb376) (o := .cells #[.int .i64 0, .slice none 0 0, .slice none 0 0] 32 (0, 0)) (by (with_reducible repeat (first | refine zk ?_ _ | refine zm ?_ | refine zh ?_ _)); exact BK376.out) hb); have n2_ := za.mk (zC.trans (by repeat (first | (with_reducible first | exact HK.out | apply zC.set_ | apply zZ | apply qd | apply zY | refine qo ?_ GW376.out _) | exact HK.out)) (zC.of_below hb g none) (.inl rfl)); have n3_ := za.mk (zT (by repeat (first | (with_reducible first | exact HB.out | apply zf | apply zb | apply zg | refine zi ?_ (zt.ge HI0.out) | refine zi ?_ GE376.out) | exact HB.out)) hb); have n4_ := za.mk (hbox); have n5_ := za.mk ((by rw [hg]; exact (Zi (w := w) (g := g) (row := none) (by repeat (first | (with_reducible first | exact HK.out | apply zC.set_ | apply zZ | apply qd | apply zY | refine qo ?_ GW376.out _) | exact HK.out))) : w.heap.size ≤ gb379)); have n6_ := za.mk ((Nat.le_trans HW0.out (by rw [hg]; exact (Zi (w := w) (g := g) (row := none) (by repeat (first | (with_reducible first | exact HK.out | apply zC.set_ | apply zZ | apply qd | apply zY | refine qo ?_ GW376.out _) | exact HK.out))) : w.heap.size ≤ gb379) : w0.heap.size ≤ gb379)); have n7_ := za.mk ((by rw [hg]; exact Nat.ne_of_lt (qg (g := gb376) (o := .cells #[.int .i64 0, .slice none 0 0, .slice none 0 0] 32 (0, 0)) (by (with_reducible repeat (first | refine zk ?_ _ | refine zm ?_ | refine zh ?_ _)); exact BK376.out)) : gb376 ≠ gb379)); have n8_ := za.mk ((by rw [hg]; exact Nat.ne_of_gt (qg (g := gb376) (o := .cells #[.int .i64 0, .slice none 0 0, .slice none 0 0] 32 (0, 0)) (by (with_reducible repeat (first | refine zk ?_ _ | refine zm ?_ | refine zh ?_ _)); exact BK376.out)) : gb379 ≠ gb376)); have n9_ := za.mk ((by rw [hg]; exact Nat.ne_of_lt (zt.lt (show zt w0 _ g s0_0 t378 from by repeat (first | (with_reducible first | exact HI0.out | apply zt.alloc | apply zt.drewN | apply zt.drew | apply zt.qQ | refine zt.far ?_ NB0_376.out _) | exact HI0.out))) : g ≠ gb379)); have n10_ := za.mk ((by rw [hg]; exact Nat.ne_of_gt (zt.lt (show zt w0 _ g s0_0 t378 from by repeat (first | (with_reducible first | exact HI0.out | apply zt.alloc | apply zt.drewN | apply zt.drew | apply zt.qQ | refine zt.far ?_ NB0_376.out _) | exact HI0.out))) : gb379 ≠ g)); clear HI0; clear BK376; clear HK; clear HB; have HI0 := n0_; have BK376 := n1_; have HK := n2_; have HB := n3_; have BK379 := n4_; have GW379 := n5_; have GE379 := n6_; have NB376_379 := n7_; have NB379_376 := n8_; have NB0_379 := n9_; have NB379_0 := n10_; clear n0_ n1_ n2_ n3_ n4_ n5_ n6_ n7_ n8_ n9_ n10_; clear hb hbox hg; have hnb11 := NB379_376.out; have hnc11 := NB376_379.out; have hnb12 := NB379_0.out; have hnc12 := NB0_379.out; have hcz13_0 : w10.cell? ⟨gb379, 0, none⟩ = some (.int .i64 0) := (ze BK379.out 0).trans rfl; have hcz13_1 : w10.cell? ⟨gb379, 1, none⟩ = some (.slice none 0 0) := (ze BK379.out 1).trans rfl; have hcz13_2 : w10.cell? ⟨gb379, 2, none⟩ = some (.slice none 0 0) := (ze BK379.out 2).trans rfl; have hfz13_0 := zl BK379.out 0; have hfz13_1 := zl BK379.out 1; have hfz13_2 := zl BK379.out 2) | ((with_reducible refine qc (f := 30) rfl ?_); refine qU (some 14) rfl rfl Try.func30 (by kernel_rfl) rfl #[.pointer (some ⟨g, 0, none⟩), .int .i64 a1, .int .i64 (wrap64 (1 + t377))] rfl (by (try simp only [List.map_toArray, List.map_cons, List.map_nil]); first | done | rfl | (simp only [List.length_drop, List.length_take]; rfl)) ?_; (with_reducible refine (zI.calls k g s0_0 t378 a1 (wrap64 (1 + t377)) t380 t383 w0 _ ?side1 ?side2 A4.out).mono ?_); (case side1 => repeat (first | (with_reducible first | exact HI0.out | apply zt.alloc | apply zt.drewN | apply zt.drew | apply zt.qQ | refine zt.far ?_ NB0_376.out _ | refine zt.far ?_ NB0_379.out _) | exact HI0.out)); (case side2 => repeat (first | (with_reducible first | exact HB.out | apply zf | apply zb | apply zg | refine zi ?_ (zt.ge HI0.out) | refine zi ?_ GE376.out | refine zi ?_ GE379.out) | exact HB.out)); rintro e w14 ⟨v381, rfl, ho0, hi, hb, hk⟩; refine ⟨_, rfl, ?_⟩; have n0_ := za.mk (zC.blk hk (g' := gb376) (o := .cells #[.int .i64 0, .slice none 0 0, .slice none 0 0] 32 (0, 0)) (by (with_reducible repeat (first | refine zk ?_ _ | refine zm ?_ | refine zh ?_ _)); refine ql ?_ NB376_379.out _; (with_reducible repeat (first | refine zk ?_ _ | refine zm ?_ | refine zh ?_ _)); refine ql ?_ NB376_379.out _; (with_reducible repeat (first | refine zk ?_ _ | refine zm ?_ | refine zh ?_ _)); refine ql ?_ NB376_379.out _; (with_reducible repeat (first | refine zk ?_ _ | refine zm ?_ | refine zh ?_ _)); exact BK376.out) NB376_0.out (by simp)); have n1_ := za.mk (zC.blk hk (g' := gb379) (o := .cells #[.int .i64 (wrap64 (1 + t377)), .slice none 0 0, .slice none 0 0] 32 (0, 0)) (by (with_reducible repeat (first | refine zk ?_ _ | refine zm ?_ | refine zh ?_ _)); refine zX (cs := #[.int .i64 (wrap64 (1 + t377)), .slice none 0 0, .slice none 0 0]) ?_ 2 _ rfl; (with_reducible repeat (first | refine zk ?_ _ | refine zm ?_ | refine zh ?_ _)); refine zX (cs := #[.int .i64 (wrap64 (1 + t377)), .slice none 0 0, .slice none 0 0]) ?_ 1 _ rfl; (with_reducible repeat (first | refine zk ?_ _ | refine zm ?_ | refine zh ?_ _)); refine zX (cs := #[.int .i64 0, .slice none 0 0, .slice none 0 0]) ?_ 0 _ rfl; (with_reducible repeat (first | refine zk ?_ _ | refine zm ?_ | refine zh ?_ _)); exact BK379.out) NB379_0.out (by simp)); have n2_ := za.mk (Kd.qM ho0 (Zi (w := w) (g := g) (row := none) (by repeat (first | (with_reducible first | exact HK.out | apply zC.set_ | apply zZ | apply qd | apply zY | refine qo ?_ GW376.out _ | refine qo ?_ GW379.out _) | exact HK.out)))); have n3_ := za.mk (zC.trans (by repeat (first | (with_reducible first | exact HK.out | apply zC.set_ | apply zZ | apply qd | apply zY | refine qo ?_ GW376.out _ | refine qo ?_ GW379.out _) | exact HK.out)) hk (.inl rfl)); have n4_ := za.mk (hb); have n5_ := za.mk (hi); clear BK376; clear BK379; clear HK; clear HB; clear HI0; have BK376 := n0_; have BK379 := n1_; have HO382 := n2_; have HK := n3_; have HB := n4_; have HI0 := n5_; clear n0_ n1_ n2_ n3_ n4_ n5_; (try clear hb); (try clear hb2); (try clear hk); (try clear hi); (try clear ho0); obtain ⟨Ao15, co15, eo15⟩ := Kd.qC HO382.out; subst eo15; have hcz16_0 : w14.cell? ⟨gb379, 0, none⟩ = some (.int .i64 (wrap64 (1 + t377))) := (ze BK379.out 0).trans rfl; have hcz16_1 : w14.cell? ⟨gb379, 1, none⟩ = some (.slice none 0 0) := (ze BK379.out 1).trans rfl; have hcz16_2 : w14.cell? ⟨gb379, 2, none⟩ = some (.slice none 0 0) := (ze BK379.out 2).trans rfl; have hfz16_0 := zl BK379.out 0; have hfz16_1 := zl BK379.out 1; have hfz16_2 := zl BK379.out 2) | ((with_reducible refine qc (f := 29) rfl ?_); refine qU (some 17) rfl rfl Try.func29 (by kernel_rfl) rfl #[.pointer (some ⟨g, 0, none⟩), .int .i64 2] rfl (by (try simp only [List.map_toArray, List.map_cons, List.map_nil]); first | done | rfl | (simp only [List.length_drop, List.length_take]; rfl)) ?_; (with_reducible refine (zJ.calls g s0_0 t383 2 t384 t385 w0 _ ?side1 ?side2 A5.out).mono ?_); (case side1 => repeat (first | (with_reducible first | exact HI0.out | apply zt.alloc | apply zt.drewN | apply zt.drew | apply zt.qQ | refine zt.far ?_ NB0_376.out _ | refine zt.far ?_ NB0_379.out _) | exact HI0.out)); (case side2 => repeat (first | (with_reducible first | exact HB.out | apply zf | apply zb | apply zg | refine zi ?_ (zt.ge HI0.out) | refine zi ?_ GE376.out | refine zi ?_ GE379.out) | exact HB.out)); rintro e w17 ⟨rfl, hi, hb, hk⟩; refine ⟨_, rfl, ?_⟩; have n0_ := za.mk (zC.blk hk (g' := gb376) (o := .cells #[.int .i64 0, .slice none 0 0, .slice none 0 0] 32 (0, 0)) (by (with_reducible repeat (first | refine zk ?_ _ | refine zm ?_ | refine zh ?_ _)); refine ql ?_ NB376_379.out _; (with_reducible repeat (first | refine zk ?_ _ | refine zm ?_ | refine zh ?_ _)); exact BK376.out) NB376_0.out (by simp)); have n1_ := za.mk (zC.blk hk (g' := gb379) (o := .cells #[.int .i64 (wrap64 (1 + t377)), .slice Ao15 t380.length co15, .slice none 0 0] 32 (0, 0)) (by (with_reducible repeat (first | refine zk ?_ _ | refine zm ?_ | refine zh ?_ _)); refine zX (cs := #[.int .i64 (wrap64 (1 + t377)), .slice none 0 0, .slice none 0 0]) ?_ 1 _ rfl; (with_reducible repeat (first | refine zk ?_ _ | refine zm ?_ | refine zh ?_ _)); exact BK379.out) NB379_0.out (by simp)); have n2_ := za.mk (Kd.zR (Kd.R_keep (zt.apart (show zt w0 _ g s0_0 t383 from by repeat (first | (with_reducible first | exact HI0.out | apply zt.alloc | apply zt.drewN | apply zt.drew | apply zt.qQ | refine zt.far ?_ NB0_376.out _ | refine zt.far ?_ NB0_379.out _) | exact HI0.out)) (by (with_reducible repeat (first | apply Kd.zn | apply Kd.zq | apply Kd.zu)); exact (Kd.zR (Kd.zz (p := ⟨gb379, 1, none⟩) (Kd.qw HO382.out BK379.out (by decide)) (fun _ hk => hk.2) (.slice Ao15 t380.length co15)) (fun _ h_ => h_.1))) (by decide)) hk (fun _ h => h.2)) (fun _ h => h.1)); have n3_ := za.mk (zC.trans (by repeat (first | (with_reducible first | exact HK.out | apply zC.set_ | apply zZ | apply qd | apply zY | refine qo ?_ GW376.out _ | refine qo ?_ GW379.out _) | exact HK.out)) hk (.inl rfl)); have n4_ := za.mk (hb); have n5_ := za.mk (hi); clear BK376; clear BK379; clear HO382; clear HK; clear HB; clear HI0; have BK376 := n0_; have BK379 := n1_; have HO382 := n2_; have HK := n3_; have HB := n4_; have HI0 := n5_; clear n0_ n1_ n2_ n3_ n4_ n5_; (try clear hb); (try clear hb2); (try clear hk); (try clear hi)) | ((with_reducible refine qc (f := 31) rfl ?_); refine qU (some 21) rfl rfl Try.func31 (by kernel_rfl) rfl #[.pointer (some ⟨g, 0, none⟩), .int .i64 a1] rfl (by (try simp only [List.map_toArray, List.map_cons, List.map_nil]); first | done | rfl | (simp only [List.length_drop, List.length_take]; rfl)) ?_; (with_reducible refine (zV.calls k g s0_0 t385 a1 t386 t389 w0 _ ?side1 ?side2 A7.out).mono ?_); (case side1 => repeat (first | (with_reducible first | exact HI0.out | apply zt.alloc | apply zt.drewN | apply zt.drew | apply zt.qQ | refine zt.far ?_ NB0_376.out _ | refine zt.far ?_ NB0_379.out _) | exact HI0.out)); (case side2 => repeat (first | (with_reducible first | exact HB.out | apply zf | apply zb | apply zg | refine zi ?_ (zt.ge HI0.out) | refine zi ?_ GE376.out | refine zi ?_ GE379.out) | exact HB.out)); rintro e w18 ⟨v387, rfl, ho0, hi, hb, hk⟩; refine ⟨_, rfl, ?_⟩; have n0_ := za.mk (zC.blk hk (g' := gb376) (o := .cells #[.int .i64 0, .slice none 0 0, .slice none 0 0] 32 (0, 0)) (by (with_reducible repeat (first | refine zk ?_ _ | refine zm ?_ | refine zh ?_ _)); exact BK376.out) NB376_0.out (by simp)); have n1_ := za.mk (zC.blk hk (g' := gb379) (o := .cells #[.int .i64 (wrap64 (1 + t377)), .slice Ao15 t380.length co15, .slice none 0 0] 32 (0, 0)) (by (with_reducible repeat (first | refine zk ?_ _ | refine zm ?_ | refine zh ?_ _)); exact BK379.out) NB379_0.out (by simp)); have n2_ := za.mk (Kd.zR (Kd.ZY (Kd.R_oldK (zt.apart (show zt w0 _ g s0_0 t385 from by repeat (first | (with_reducible first | exact HI0.out | apply zt.alloc | apply zt.drewN | apply zt.drew | apply zt.qQ | refine zt.far ?_ NB0_376.out _ | refine zt.far ?_ NB0_379.out _) | exact HI0.out)) (by (with_reducible repeat (first | apply Kd.zn | apply Kd.zq | apply Kd.zu)); exact HO382.out) (by decide)) hk) (Kd.qL ho0)) (fun _ h_ => h_.1)); have n3_ := za.mk (Kd.qM (Kd.qN ho0 (Kd.R_lt (by (with_reducible repeat (first | apply Kd.zn | apply Kd.zq | apply Kd.zu)); exact HO382.out))) (Zi (w := w) (g := g) (row := none) (by repeat (first | (with_reducible first | exact HK.out | apply zC.set_ | apply zZ | apply qd | apply zY | refine qo ?_ GW376.out _ | refine qo ?_ GW379.out _) | exact HK.out)))); have n4_ := za.mk (zC.trans (by repeat (first | (with_reducible first | exact HK.out | apply zC.set_ | apply zZ | apply qd | apply zY | refine qo ?_ GW376.out _ | refine qo ?_ GW379.out _) | exact HK.out)) hk (.inl rfl)); have n5_ := za.mk (hb); have n6_ := za.mk (hi); clear BK376; clear BK379; clear HO382; clear HK; clear HB; clear HI0; have BK376 := n0_; have BK379 := n1_; have HO382 := n2_; have HO388 := n3_; have HK := n4_; have HB := n5_; have HI0 := n6_; clear n0_ n1_ n2_ n3_ n4_ n5_ n6_; (try clear hb); (try clear hb2); (try clear hk); (try clear hi); (try clear ho0); obtain ⟨Ao19, co19, eo19⟩ := Kd.qC HO388.out; subst eo19; have hcz20_0 : w18.cell? ⟨gb379, 0, none⟩ = some (.int .i64 (wrap64 (1 + t377))) := (ze BK379.out 0).trans rfl; have hcz20_1 : w18.cell? ⟨gb379, 1, none⟩ = some (.slice Ao15 t380.length co15) := (ze BK379.out 1).trans rfl; have hcz20_2 : w18.cell? ⟨gb379, 2, none⟩ = some (.slice none 0 0) := (ze BK379.out 2).trans rfl; have hfz20_0 := zl BK379.out 0; have hfz20_1 := zl BK379.out 1; have hfz20_2 := zl BK379.out 2; have hnb21 := NB376_0.out; have hnc21 := NB0_376.out; have hcz22_0 : w18.cell? ⟨gb376, 0, none⟩ = some (.int .i64 0) := (ze BK376.out 0).trans rfl; have hcz22_1 : w18.cell? ⟨gb376, 1, none⟩ = some (.slice none 0 0) := (ze BK376.out 1).trans rfl; have hcz22_2 : w18.cell? ⟨gb376, 2, none⟩ = some (.slice none 0 0) := (ze BK376.out 2).trans rfl; have hfz22_0 := zl BK376.out 0; have hfz22_1 := zl BK376.out 1; have hfz22_2 := zl BK376.out 2))
  refine bodyPost_ret (results_cell_row rfl _ _ gb376 32 #[.int .i64 (wrap64 (1 + t377)), .slice Ao15 t380.length co15, .slice Ao19 t386.length co19] (0, 0) _ rfl (by (with_reducible repeat (first | refine zk ?_ _ | refine zm ?_ | refine zh ?_ _)); refine zX (cs := #[.int .i64 (wrap64 (1 + t377)), .slice Ao15 t380.length co15, .slice none 0 0]) ?_ 2 _ rfl; (with_reducible repeat (first | refine zk ?_ _ | refine zm ?_ | refine zh ?_ _)); refine zX (cs := #[.int .i64 (wrap64 (1 + t377)), .slice none 0 0, .slice none 0 0]) ?_ 1 _ rfl; (with_reducible repeat (first | refine zk ?_ _ | refine zm ?_ | refine zh ?_ _)); refine zX (cs := #[.int .i64 0, .slice none 0 0, .slice none 0 0]) ?_ 0 _ rfl; (with_reducible repeat (first | refine zk ?_ _ | refine zm ?_ | refine zh ?_ _)); refine ql ?_ NB376_379.out _; (with_reducible repeat (first | refine zk ?_ _ | refine zm ?_ | refine zh ?_ _)); exact BK376.out) Try.underlying32 rfl (by kernel_rfl)) rfl ?_
  exact ⟨_, _, by first | rfl | (simp [zQ, zP] <;> rfl) | (simp [*, zQ, zP] <;> rfl), by (with_reducible repeat (first | apply Kd.zn | apply Kd.zq | apply Kd.zu)); exact Kd.zR (Kd.zz (p := ⟨gb376, 2, none⟩) (Kd.zz (p := ⟨gb376, 1, none⟩) (Kd.zz (p := ⟨gb376, 0, none⟩) (Kd.zz (p := ⟨gb379, 2, none⟩) (Kd.qw (Kd.qw HO382.out BK379.out (by decide)) BK376.out (by decide)) (fun _ hk => hk.1.2) (.slice Ao19 t386.length co19)) (fun _ hk => hk.2) (.int .i64 (wrap64 (1 + t377)))) (fun _ hk => hk.2) (.slice Ao15 t380.length co15)) (fun _ hk => hk.2) (.slice Ao19 t386.length co19)) (fun _ hk => hk.1.1.2), by (with_reducible repeat (first | apply Kd.zn | apply Kd.zq | apply Kd.zu)); exact Kd.zR (Kd.zz (p := ⟨gb376, 2, none⟩) (Kd.zz (p := ⟨gb376, 1, none⟩) (Kd.zz (p := ⟨gb376, 0, none⟩) (Kd.zz (p := ⟨gb379, 2, none⟩) (Kd.qw (Kd.qw HO388.out BK379.out (by decide)) BK376.out (by decide)) (fun _ hk => hk.1.2) (.slice Ao19 t386.length co19)) (fun _ hk => hk.2) (.int .i64 (wrap64 (1 + t377)))) (fun _ hk => hk.2) (.slice Ao15 t380.length co15)) (fun _ hk => hk.2) (.slice Ao19 t386.length co19)) (fun _ hk => hk.1.1.2), by repeat (first | (with_reducible first | exact HI0.out | apply zt.alloc | apply zt.drewN | apply zt.drew | apply zt.qQ | refine zt.far ?_ NB0_376.out _ | refine zt.far ?_ NB0_379.out _) | exact HI0.out), by repeat (first | (with_reducible first | exact HB.out | apply zf | apply zb | apply zg | refine zi ?_ (zt.ge HI0.out) | refine zi ?_ GE376.out | refine zi ?_ GE379.out) | exact HB.out), by repeat (first | (with_reducible first | exact HK.out | apply zC.set_ | apply zZ | apply qd | apply zY | refine qo ?_ GW376.out _ | refine qo ?_ GW379.out _) | exact HK.out)⟩
 ·rw [if_neg c6] at H
  have c6b0 : (t384 == 1) = false := beq_eq_false_iff_ne.mpr c6
  have c6b1 : (t384 != 1) = true := bne_iff_ne.mpr c6
  simp only [Option.some.injEq, Prod.mk.injEq] at H
  obtain ⟨rfl, rfl, rfl, rfl⟩ := H
  go_enter Try.func12, Try.ntmps12
  go_wp2_with (first | ((with_reducible refine qJ (N := 4) rfl ?_); refine qI ?hg (N := 4) ?hd (cs := #[.int .i64 0, .slice none 0 0, .slice none 0 0]) (t := 32) ?hr ?_; (case hd => rfl); (case hg => rfl); (case hr => first | (go_simp; done) | (go_simp; rfl)); intro gb376 hg w23 hbox hb; have n0_ := za.mk (zt.below (by repeat (first | (with_reducible first | exact HI0.out | apply zt.alloc | apply zt.drewN | apply zt.drew | apply zt.qQ) | exact HI0.out)) hb); have n1_ := za.mk (zC.trans (by repeat (first | (with_reducible first | exact HK.out | apply zC.set_ | apply zZ | apply qd | apply zY) | exact HK.out)) (zC.of_below hb g none) (.inl rfl)); have n2_ := za.mk (zT (by repeat (first | (with_reducible first | exact HB.out | apply zf | apply zb | apply zg | refine zi ?_ (zt.ge HI0.out)) | exact HB.out)) hb); have n3_ := za.mk (hbox); have n4_ := za.mk ((by rw [hg]; exact (Zi (w := w) (g := g) (row := none) (by repeat (first | (with_reducible first | exact HK.out | apply zC.set_ | apply zZ | apply qd | apply zY) | exact HK.out))) : w.heap.size ≤ gb376)); have n5_ := za.mk ((Nat.le_trans HW0.out (by rw [hg]; exact (Zi (w := w) (g := g) (row := none) (by repeat (first | (with_reducible first | exact HK.out | apply zC.set_ | apply zZ | apply qd | apply zY) | exact HK.out))) : w.heap.size ≤ gb376) : w0.heap.size ≤ gb376)); have n6_ := za.mk ((by rw [hg]; exact Nat.ne_of_lt (zt.lt (show zt w0 _ g s0_0 s0_1 from by repeat (first | (with_reducible first | exact HI0.out | apply zt.alloc | apply zt.drewN | apply zt.drew | apply zt.qQ) | exact HI0.out))) : g ≠ gb376)); have n7_ := za.mk ((by rw [hg]; exact Nat.ne_of_gt (zt.lt (show zt w0 _ g s0_0 s0_1 from by repeat (first | (with_reducible first | exact HI0.out | apply zt.alloc | apply zt.drewN | apply zt.drew | apply zt.qQ) | exact HI0.out))) : gb376 ≠ g)); clear HI0; clear HK; clear HB; have HI0 := n0_; have HK := n1_; have HB := n2_; have BK376 := n3_; have GW376 := n4_; have GE376 := n5_; have NB0_376 := n6_; have NB376_0 := n7_; clear n0_ n1_ n2_ n3_ n4_ n5_ n6_ n7_; clear hb hbox hg) | ((with_reducible refine qc (f := 29) rfl ?_); refine qU (some 7) rfl rfl Try.func29 (by kernel_rfl) rfl #[.pointer (some ⟨g, 0, none⟩), .int .i64 4] rfl (by (try simp only [List.map_toArray, List.map_cons, List.map_nil]); first | done | rfl | (simp only [List.length_drop, List.length_take]; rfl)) ?_; (with_reducible refine (zJ.calls g s0_0 s0_1 4 t377 t378 w0 _ ?side1 ?side2 A3.out).mono ?_); (case side1 => repeat (first | (with_reducible first | exact HI0.out | apply zt.alloc | apply zt.drewN | apply zt.drew | apply zt.qQ | refine zt.far ?_ NB0_376.out _) | exact HI0.out)); (case side2 => repeat (first | (with_reducible first | exact HB.out | apply zf | apply zb | apply zg | refine zi ?_ (zt.ge HI0.out) | refine zi ?_ GE376.out) | exact HB.out)); rintro e w24 ⟨rfl, hi, hb, hk⟩; refine ⟨_, rfl, ?_⟩; have n0_ := za.mk (zC.blk hk (g' := gb376) (o := .cells #[.int .i64 0, .slice none 0 0, .slice none 0 0] 32 (0, 0)) (by (with_reducible repeat (first | refine zk ?_ _ | refine zm ?_ | refine zh ?_ _)); exact BK376.out) NB376_0.out (by simp)); have n1_ := za.mk (zC.trans (by repeat (first | (with_reducible first | exact HK.out | apply zC.set_ | apply zZ | apply qd | apply zY | refine qo ?_ GW376.out _) | exact HK.out)) hk (.inl rfl)); have n2_ := za.mk (hb); have n3_ := za.mk (hi); clear BK376; clear HK; clear HB; clear HI0; have BK376 := n0_; have HK := n1_; have HB := n2_; have HI0 := n3_; clear n0_ n1_ n2_ n3_; (try clear hb); (try clear hb2); (try clear hk); (try clear hi)) | ((with_reducible refine qJ (N := 5) rfl ?_); refine qI ?hg (N := 5) ?hd (cs := #[.int .i64 0, .slice none 0 0, .slice none 0 0]) (t := 32) ?hr ?_; (case hd => rfl); (case hg => rfl); (case hr => first | (go_simp; done) | (go_simp; rfl)); intro gb379 hg w25 hbox hb; have n0_ := za.mk (zt.below (by repeat (first | (with_reducible first | exact HI0.out | apply zt.alloc | apply zt.drewN | apply zt.drew | apply zt.qQ | refine zt.far ?_ NB0_376.out _) | exact HI0.out)) hb); have n1_ := za.mk (zW (g := gb376) (o := .cells #[.int .i64 0, .slice none 0 0, .slice none 0 0] 32 (0, 0)) (by (with_reducible repeat (first | refine zk ?_ _ | refine zm ?_ | refine zh ?_ _)); exact BK376.out) hb); have n2_ := za.mk (zC.trans (by repeat (first | (with_reducible first | exact HK.out | apply zC.set_ | apply zZ | apply qd | apply zY | refine qo ?_ GW376.out _) | exact HK.out)) (zC.of_below hb g none) (.inl rfl)); have n3_ := za.mk (zT (by repeat (first | (with_reducible first | exact HB.out | apply zf | apply zb | apply zg | refine zi ?_ (zt.ge HI0.out) | refine zi ?_ GE376.out) | exact HB.out)) hb); have n4_ := za.mk (hbox); have n5_ := za.mk ((by rw [hg]; exact (Zi (w := w) (g := g) (row := none) (by repeat (first | (with_reducible first | exact HK.out | apply zC.set_ | apply zZ | apply qd | apply zY | refine qo ?_ GW376.out _) | exact HK.out))) : w.heap.size ≤ gb379)); have n6_ := za.mk ((Nat.le_trans HW0.out (by rw [hg]; exact (Zi (w := w) (g := g) (row := none) (by repeat (first | (with_reducible first | exact HK.out | apply zC.set_ | apply zZ | apply qd | apply zY | refine qo ?_ GW376.out _) | exact HK.out))) : w.heap.size ≤ gb379) : w0.heap.size ≤ gb379)); have n7_ := za.mk ((by rw [hg]; exact Nat.ne_of_lt (qg (g := gb376) (o := .cells #[.int .i64 0, .slice none 0 0, .slice none 0 0] 32 (0, 0)) (by (with_reducible repeat (first | refine zk ?_ _ | refine zm ?_ | refine zh ?_ _)); exact BK376.out)) : gb376 ≠ gb379)); have n8_ := za.mk ((by rw [hg]; exact Nat.ne_of_gt (qg (g := gb376) (o := .cells #[.int .i64 0, .slice none 0 0, .slice none 0 0] 32 (0, 0)) (by (with_reducible repeat (first | refine zk ?_ _ | refine zm ?_ | refine zh ?_ _)); exact BK376.out)) : gb379 ≠ gb376)); have n9_ := za.mk ((by rw [hg]; exact Nat.ne_of_lt (zt.lt (show zt w0 _ g s0_0 t378 from by repeat (first | (with_reducible first | exact HI0.out | apply zt.alloc | apply zt.drewN | apply zt.drew | apply zt.qQ | refine zt.far ?_ NB0_376.out _) | exact HI0.out))) : g ≠ gb379)); have n10_ := za.mk ((by rw [hg]; exact Nat.ne_of_gt (zt.lt (show zt w0 _ g s0_0 t378 from by repeat (first | (with_reducible first | exact HI0.out | apply zt.alloc | apply zt.drewN | apply zt.drew | apply zt.qQ | refine zt.far ?_ NB0_376.out _) | exact HI0.out))) : gb379 ≠ g)); clear HI0; clear BK376; clear HK; clear HB; have HI0 := n0_; have BK376 := n1_; have HK := n2_; have HB := n3_; have BK379 := n4_; have GW379 := n5_; have GE379 := n6_; have NB376_379 := n7_; have NB379_376 := n8_; have NB0_379 := n9_; have NB379_0 := n10_; clear n0_ n1_ n2_ n3_ n4_ n5_ n6_ n7_ n8_ n9_ n10_; clear hb hbox hg; have hnb26 := NB379_376.out; have hnc26 := NB376_379.out; have hnb27 := NB379_0.out; have hnc27 := NB0_379.out; have hcz28_0 : w25.cell? ⟨gb379, 0, none⟩ = some (.int .i64 0) := (ze BK379.out 0).trans rfl; have hcz28_1 : w25.cell? ⟨gb379, 1, none⟩ = some (.slice none 0 0) := (ze BK379.out 1).trans rfl; have hcz28_2 : w25.cell? ⟨gb379, 2, none⟩ = some (.slice none 0 0) := (ze BK379.out 2).trans rfl; have hfz28_0 := zl BK379.out 0; have hfz28_1 := zl BK379.out 1; have hfz28_2 := zl BK379.out 2) | ((with_reducible refine qc (f := 30) rfl ?_); refine qU (some 14) rfl rfl Try.func30 (by kernel_rfl) rfl #[.pointer (some ⟨g, 0, none⟩), .int .i64 a1, .int .i64 (wrap64 (1 + t377))] rfl (by (try simp only [List.map_toArray, List.map_cons, List.map_nil]); first | done | rfl | (simp only [List.length_drop, List.length_take]; rfl)) ?_; (with_reducible refine (zI.calls k g s0_0 t378 a1 (wrap64 (1 + t377)) t380 t383 w0 _ ?side1 ?side2 A4.out).mono ?_); (case side1 => repeat (first | (with_reducible first | exact HI0.out | apply zt.alloc | apply zt.drewN | apply zt.drew | apply zt.qQ | refine zt.far ?_ NB0_376.out _ | refine zt.far ?_ NB0_379.out _) | exact HI0.out)); (case side2 => repeat (first | (with_reducible first | exact HB.out | apply zf | apply zb | apply zg | refine zi ?_ (zt.ge HI0.out) | refine zi ?_ GE376.out | refine zi ?_ GE379.out) | exact HB.out)); rintro e w29 ⟨v381, rfl, ho0, hi, hb, hk⟩; refine ⟨_, rfl, ?_⟩; have n0_ := za.mk (zC.blk hk (g' := gb376) (o := .cells #[.int .i64 0, .slice none 0 0, .slice none 0 0] 32 (0, 0)) (by (with_reducible repeat (first | refine zk ?_ _ | refine zm ?_ | refine zh ?_ _)); refine ql ?_ NB376_379.out _; (with_reducible repeat (first | refine zk ?_ _ | refine zm ?_ | refine zh ?_ _)); refine ql ?_ NB376_379.out _; (with_reducible repeat (first | refine zk ?_ _ | refine zm ?_ | refine zh ?_ _)); refine ql ?_ NB376_379.out _; (with_reducible repeat (first | refine zk ?_ _ | refine zm ?_ | refine zh ?_ _)); exact BK376.out) NB376_0.out (by simp)); have n1_ := za.mk (zC.blk hk (g' := gb379) (o := .cells #[.int .i64 (wrap64 (1 + t377)), .slice none 0 0, .slice none 0 0] 32 (0, 0)) (by (with_reducible repeat (first | refine zk ?_ _ | refine zm ?_ | refine zh ?_ _)); refine zX (cs := #[.int .i64 (wrap64 (1 + t377)), .slice none 0 0, .slice none 0 0]) ?_ 2 _ rfl; (with_reducible repeat (first | refine zk ?_ _ | refine zm ?_ | refine zh ?_ _)); refine zX (cs := #[.int .i64 (wrap64 (1 + t377)), .slice none 0 0, .slice none 0 0]) ?_ 1 _ rfl; (with_reducible repeat (first | refine zk ?_ _ | refine zm ?_ | refine zh ?_ _)); refine zX (cs := #[.int .i64 0, .slice none 0 0, .slice none 0 0]) ?_ 0 _ rfl; (with_reducible repeat (first | refine zk ?_ _ | refine zm ?_ | refine zh ?_ _)); exact BK379.out) NB379_0.out (by simp)); have n2_ := za.mk (Kd.qM ho0 (Zi (w := w) (g := g) (row := none) (by repeat (first | (with_reducible first | exact HK.out | apply zC.set_ | apply zZ | apply qd | apply zY | refine qo ?_ GW376.out _ | refine qo ?_ GW379.out _) | exact HK.out)))); have n3_ := za.mk (zC.trans (by repeat (first | (with_reducible first | exact HK.out | apply zC.set_ | apply zZ | apply qd | apply zY | refine qo ?_ GW376.out _ | refine qo ?_ GW379.out _) | exact HK.out)) hk (.inl rfl)); have n4_ := za.mk (hb); have n5_ := za.mk (hi); clear BK376; clear BK379; clear HK; clear HB; clear HI0; have BK376 := n0_; have BK379 := n1_; have HO382 := n2_; have HK := n3_; have HB := n4_; have HI0 := n5_; clear n0_ n1_ n2_ n3_ n4_ n5_; (try clear hb); (try clear hb2); (try clear hk); (try clear hi); (try clear ho0); obtain ⟨Ao30, co30, eo30⟩ := Kd.qC HO382.out; subst eo30; have hcz31_0 : w29.cell? ⟨gb379, 0, none⟩ = some (.int .i64 (wrap64 (1 + t377))) := (ze BK379.out 0).trans rfl; have hcz31_1 : w29.cell? ⟨gb379, 1, none⟩ = some (.slice none 0 0) := (ze BK379.out 1).trans rfl; have hcz31_2 : w29.cell? ⟨gb379, 2, none⟩ = some (.slice none 0 0) := (ze BK379.out 2).trans rfl; have hfz31_0 := zl BK379.out 0; have hfz31_1 := zl BK379.out 1; have hfz31_2 := zl BK379.out 2) | ((with_reducible refine qc (f := 29) rfl ?_); refine qU (some 17) rfl rfl Try.func29 (by kernel_rfl) rfl #[.pointer (some ⟨g, 0, none⟩), .int .i64 2] rfl (by (try simp only [List.map_toArray, List.map_cons, List.map_nil]); first | done | rfl | (simp only [List.length_drop, List.length_take]; rfl)) ?_; (with_reducible refine (zJ.calls g s0_0 t383 2 t384 t385 w0 _ ?side1 ?side2 A5.out).mono ?_); (case side1 => repeat (first | (with_reducible first | exact HI0.out | apply zt.alloc | apply zt.drewN | apply zt.drew | apply zt.qQ | refine zt.far ?_ NB0_376.out _ | refine zt.far ?_ NB0_379.out _) | exact HI0.out)); (case side2 => repeat (first | (with_reducible first | exact HB.out | apply zf | apply zb | apply zg | refine zi ?_ (zt.ge HI0.out) | refine zi ?_ GE376.out | refine zi ?_ GE379.out) | exact HB.out)); rintro e w32 ⟨rfl, hi, hb, hk⟩; refine ⟨_, rfl, ?_⟩; have n0_ := za.mk (zC.blk hk (g' := gb376) (o := .cells #[.int .i64 0, .slice none 0 0, .slice none 0 0] 32 (0, 0)) (by (with_reducible repeat (first | refine zk ?_ _ | refine zm ?_ | refine zh ?_ _)); refine ql ?_ NB376_379.out _; (with_reducible repeat (first | refine zk ?_ _ | refine zm ?_ | refine zh ?_ _)); exact BK376.out) NB376_0.out (by simp)); have n1_ := za.mk (zC.blk hk (g' := gb379) (o := .cells #[.int .i64 (wrap64 (1 + t377)), .slice Ao30 t380.length co30, .slice none 0 0] 32 (0, 0)) (by (with_reducible repeat (first | refine zk ?_ _ | refine zm ?_ | refine zh ?_ _)); refine zX (cs := #[.int .i64 (wrap64 (1 + t377)), .slice none 0 0, .slice none 0 0]) ?_ 1 _ rfl; (with_reducible repeat (first | refine zk ?_ _ | refine zm ?_ | refine zh ?_ _)); exact BK379.out) NB379_0.out (by simp)); have n2_ := za.mk (Kd.zR (Kd.R_keep (zt.apart (show zt w0 _ g s0_0 t383 from by repeat (first | (with_reducible first | exact HI0.out | apply zt.alloc | apply zt.drewN | apply zt.drew | apply zt.qQ | refine zt.far ?_ NB0_376.out _ | refine zt.far ?_ NB0_379.out _) | exact HI0.out)) (by (with_reducible repeat (first | apply Kd.zn | apply Kd.zq | apply Kd.zu)); exact (Kd.zR (Kd.zz (p := ⟨gb379, 1, none⟩) (Kd.qw HO382.out BK379.out (by decide)) (fun _ hk => hk.2) (.slice Ao30 t380.length co30)) (fun _ h_ => h_.1))) (by decide)) hk (fun _ h => h.2)) (fun _ h => h.1)); have n3_ := za.mk (zC.trans (by repeat (first | (with_reducible first | exact HK.out | apply zC.set_ | apply zZ | apply qd | apply zY | refine qo ?_ GW376.out _ | refine qo ?_ GW379.out _) | exact HK.out)) hk (.inl rfl)); have n4_ := za.mk (hb); have n5_ := za.mk (hi); clear BK376; clear BK379; clear HO382; clear HK; clear HB; clear HI0; have BK376 := n0_; have BK379 := n1_; have HO382 := n2_; have HK := n3_; have HB := n4_; have HI0 := n5_; clear n0_ n1_ n2_ n3_ n4_ n5_; (try clear hb); (try clear hb2); (try clear hk); (try clear hi); have hcz33_0 : w32.cell? ⟨gb379, 0, none⟩ = some (.int .i64 (wrap64 (1 + t377))) := (ze BK379.out 0).trans rfl; have hcz33_1 : w32.cell? ⟨gb379, 1, none⟩ = some (.slice Ao30 t380.length co30) := (ze BK379.out 1).trans rfl; have hcz33_2 : w32.cell? ⟨gb379, 2, none⟩ = some (.slice none 0 0) := (ze BK379.out 2).trans rfl; have hfz33_0 := zl BK379.out 0; have hfz33_1 := zl BK379.out 1; have hfz33_2 := zl BK379.out 2; have hnb34 := NB376_0.out; have hnc34 := NB0_376.out; have hcz35_0 : w32.cell? ⟨gb376, 0, none⟩ = some (.int .i64 0) := (ze BK376.out 0).trans rfl; have hcz35_1 : w32.cell? ⟨gb376, 1, none⟩ = some (.slice none 0 0) := (ze BK376.out 1).trans rfl; have hcz35_2 : w32.cell? ⟨gb376, 2, none⟩ = some (.slice none 0 0) := (ze BK376.out 2).trans rfl; have hfz35_0 := zl BK376.out 0; have hfz35_1 := zl BK376.out 1; have hfz35_2 := zl BK376.out 2))
  refine bodyPost_ret (results_cell_row rfl _ _ gb376 32 #[.int .i64 (wrap64 (1 + t377)), .slice Ao30 t380.length co30, .slice none 0 0] (0, 0) _ rfl (by (with_reducible repeat (first | refine zk ?_ _ | refine zm ?_ | refine zh ?_ _)); refine zX (cs := #[.int .i64 (wrap64 (1 + t377)), .slice Ao30 t380.length co30, .slice none 0 0]) ?_ 2 _ rfl; (with_reducible repeat (first | refine zk ?_ _ | refine zm ?_ | refine zh ?_ _)); refine zX (cs := #[.int .i64 (wrap64 (1 + t377)), .slice none 0 0, .slice none 0 0]) ?_ 1 _ rfl; (with_reducible repeat (first | refine zk ?_ _ | refine zm ?_ | refine zh ?_ _)); refine zX (cs := #[.int .i64 0, .slice none 0 0, .slice none 0 0]) ?_ 0 _ rfl; (with_reducible repeat (first | refine zk ?_ _ | refine zm ?_ | refine zh ?_ _)); exact BK376.out) Try.underlying32 rfl (by kernel_rfl)) rfl ?_
  exact ⟨_, _, by first | rfl | (simp [zQ, zP] <;> rfl) | (simp [*, zQ, zP] <;> rfl), by (with_reducible repeat (first | apply Kd.zn | apply Kd.zq | apply Kd.zu)); exact Kd.zR (Kd.zz (p := ⟨gb376, 2, none⟩) (Kd.zz (p := ⟨gb376, 1, none⟩) (Kd.zz (p := ⟨gb376, 0, none⟩) (Kd.qw HO382.out BK376.out (by decide)) (fun _ hk => hk.2) (.int .i64 (wrap64 (1 + t377)))) (fun _ hk => hk.2) (.slice Ao30 t380.length co30)) (fun _ hk => hk.2) (.slice none 0 0)) (fun _ hk => (by simp [Value.ownBlock])), by first | exact Kd.ZO _ _ _ _ _ | exact Kd.N_nil _ _ _ _ _ | exact Kd.V_nil _ _ _ _ _ | exact Kd.Q_nil _ _ _ _ _ | exact Kd.S_nil _ _ _ _ _, by repeat (first | (with_reducible first | exact HI0.out | apply zt.alloc | apply zt.drewN | apply zt.drew | apply zt.qQ | refine zt.far ?_ NB0_376.out _ | refine zt.far ?_ NB0_379.out _) | exact HI0.out), by repeat (first | (with_reducible first | exact HB.out | apply zf | apply zb | apply zg | refine zi ?_ (zt.ge HI0.out) | refine zi ?_ GE376.out | refine zi ?_ GE379.out) | exact HB.out), by repeat (first | (with_reducible first | exact HK.out | apply zC.set_ | apply zZ | apply qd | apply zY | refine qo ?_ GW376.out _ | refine qo ?_ GW379.out _) | exact HK.out)⟩
def qY.f (a0_0 : Int) (a0_1 : Int) (a1_0 : Int) (a1_1 : Int) : Option (Bool) := if a0_0 < a1_0 then (some true) else (if a0_0 = a1_0 then (some (decide (a0_1 < a1_1))) else (some false))
set_option maxHeartbeats 8000000 in
set_option maxRecDepth 100000 in
theorem qY.calls (a0_0 : Int) (a0_1 : Int) (a1_0 : Int) (a1_1 : Int) (r : Bool) (w : World) (h : qY.f a0_0 a0_1 a1_0 a1_1 = some r) :
  Calls Try.prog 66 #[.agg #[.int .i64 a0_0, .int .i64 a0_1], .agg #[.int .i64 a1_0, .int .i64 a1_1]] w fun e w' => e = .returned (.bool r) ∧ Below w.heap.size w w' := by
 have hu66 := Try.underlying66
 have HB := za.mk (Below.refl w.heap.size w)
 have H : (if a0_0 < a1_0 then (some true) else (if a0_0 = a1_0 then (some (decide (a0_1 < a1_1))) else (some false))) = some r := h
 clear h
 by_cases c3 : a0_0 < a1_0
 ·rw [if_pos c3] at H
  have c3b0 : decide (a0_0 < a1_0) = true := decide_eq_true c3
  clear c3
  obtain rfl := Option.some.inj H
  go_enter Try.func66, Try.ntmps66
  go_wp2_with (first | ((with_reducible refine qJ (N := 2) rfl ?_); refine qI ?hg (N := 2) ?hd (cs := #[.int .i64 a0_0, .int .i64 a0_1]) (t := 66) ?hr ?_; (case hd => rfl); (case hg => rfl); (case hr => first | (go_simp; done) | (go_simp; rfl)); intro gb390 hg w4 hbox hb; have n0_ := za.mk (zT (by repeat (first | (with_reducible first | exact HB.out | apply zf | apply zb | apply zg) | exact HB.out)) hb); have n1_ := za.mk (hbox); have n2_ := za.mk ((by rw [hg]; exact (zB (by repeat (first | (with_reducible first | exact HB.out | apply zf | apply zb | apply zg) | exact HB.out))) : w.heap.size ≤ gb390)); have n3_ := za.mk ((by rw [hg]; exact (zB (by repeat (first | (with_reducible first | exact HB.out | apply zf | apply zb | apply zg) | exact HB.out))) : w.heap.size ≤ gb390)); clear HB; have HB := n0_; have BK390 := n1_; have GW390 := n2_; have GE390 := n3_; clear n0_ n1_ n2_ n3_; clear hb hbox hg) | ((with_reducible refine qJ (N := 3) rfl ?_); refine qI ?hg (N := 3) ?hd (cs := #[.int .i64 a1_0, .int .i64 a1_1]) (t := 66) ?hr ?_; (case hd => rfl); (case hg => rfl); (case hr => first | (go_simp; done) | (go_simp; rfl)); intro gb391 hg w5 hbox hb; have n0_ := za.mk (zW (g := gb390) (o := .cells #[.int .i64 a0_0, .int .i64 a0_1] 66 (0, 0)) (by (with_reducible repeat (first | refine zk ?_ _ | refine zm ?_ | refine zh ?_ _)); exact BK390.out) hb); have n1_ := za.mk (zT (by repeat (first | (with_reducible first | exact HB.out | apply zf | apply zb | apply zg | refine zi ?_ GE390.out) | exact HB.out)) hb); have n2_ := za.mk (hbox); have n3_ := za.mk ((by rw [hg]; exact (zB (by repeat (first | (with_reducible first | exact HB.out | apply zf | apply zb | apply zg | refine zi ?_ GE390.out) | exact HB.out))) : w.heap.size ≤ gb391)); have n4_ := za.mk ((by rw [hg]; exact (zB (by repeat (first | (with_reducible first | exact HB.out | apply zf | apply zb | apply zg | refine zi ?_ GE390.out) | exact HB.out))) : w.heap.size ≤ gb391)); have n5_ := za.mk ((by rw [hg]; exact Nat.ne_of_lt (qg (g := gb390) (o := .cells #[.int .i64 a0_0, .int .i64 a0_1] 66 (0, 0)) (by (with_reducible repeat (first | refine zk ?_ _ | refine zm ?_ | refine zh ?_ _)); exact BK390.out)) : gb390 ≠ gb391)); have n6_ := za.mk ((by rw [hg]; exact Nat.ne_of_gt (qg (g := gb390) (o := .cells #[.int .i64 a0_0, .int .i64 a0_1] 66 (0, 0)) (by (with_reducible repeat (first | refine zk ?_ _ | refine zm ?_ | refine zh ?_ _)); exact BK390.out)) : gb391 ≠ gb390)); clear BK390; clear HB; have BK390 := n0_; have HB := n1_; have BK391 := n2_; have GW391 := n3_; have GE391 := n4_; have NB390_391 := n5_; have NB391_390 := n6_; clear n0_ n1_ n2_ n3_ n4_ n5_ n6_; clear hb hbox hg; have hnb6 := NB390_391.out; have hnc6 := NB391_390.out; have hcz7_0 : w5.cell? ⟨gb390, 0, none⟩ = some (.int .i64 a0_0) := (ze BK390.out 0).trans rfl; have hcz7_1 : w5.cell? ⟨gb390, 1, none⟩ = some (.int .i64 a0_1) := (ze BK390.out 1).trans rfl; have hfz7_0 := zl BK390.out 0; have hfz7_1 := zl BK390.out 1; have hcz8_0 : w5.cell? ⟨gb391, 0, none⟩ = some (.int .i64 a1_0) := (ze BK391.out 0).trans rfl; have hcz8_1 : w5.cell? ⟨gb391, 1, none⟩ = some (.int .i64 a1_1) := (ze BK391.out 1).trans rfl; have hfz8_0 := zl BK391.out 0; have hfz8_1 := zl BK391.out 1))
  go_ret
  exact ⟨by first | rfl | (simp [zQ, zP] <;> rfl) | (simp [*, zQ, zP] <;> rfl), by repeat (first | (with_reducible first | exact HB.out | apply zf | apply zb | apply zg | refine zi ?_ GE390.out | refine zi ?_ GE391.out) | exact HB.out)⟩
 ·rw [if_neg c3] at H
  have c3b0 : decide (a0_0 < a1_0) = false := decide_eq_false c3
  clear c3
  by_cases c9 : a0_0 = a1_0
  ·rw [if_pos c9] at H
   have c9b0 : (a0_0 == a1_0) = true := beq_iff_eq.mpr c9
   have c9b1 : (a0_0 != a1_0) = false := bne_eq_false_iff_eq.mpr c9
   clear c9
   obtain rfl := Option.some.inj H
   go_enter Try.func66, Try.ntmps66
   go_wp2_with (first | ((with_reducible refine qJ (N := 2) rfl ?_); refine qI ?hg (N := 2) ?hd (cs := #[.int .i64 a0_0, .int .i64 a0_1]) (t := 66) ?hr ?_; (case hd => rfl); (case hg => rfl); (case hr => first | (go_simp; done) | (go_simp; rfl)); intro gb390 hg w10 hbox hb; have n0_ := za.mk (zT (by repeat (first | (with_reducible first | exact HB.out | apply zf | apply zb | apply zg) | exact HB.out)) hb); have n1_ := za.mk (hbox); have n2_ := za.mk ((by rw [hg]; exact (zB (by repeat (first | (with_reducible first | exact HB.out | apply zf | apply zb | apply zg) | exact HB.out))) : w.heap.size ≤ gb390)); have n3_ := za.mk ((by rw [hg]; exact (zB (by repeat (first | (with_reducible first | exact HB.out | apply zf | apply zb | apply zg) | exact HB.out))) : w.heap.size ≤ gb390)); clear HB; have HB := n0_; have BK390 := n1_; have GW390 := n2_; have GE390 := n3_; clear n0_ n1_ n2_ n3_; clear hb hbox hg) | ((with_reducible refine qJ (N := 3) rfl ?_); refine qI ?hg (N := 3) ?hd (cs := #[.int .i64 a1_0, .int .i64 a1_1]) (t := 66) ?hr ?_; (case hd => rfl); (case hg => rfl); (case hr => first | (go_simp; done) | (go_simp; rfl)); intro gb391 hg w11 hbox hb; have n0_ := za.mk (zW (g := gb390) (o := .cells #[.int .i64 a0_0, .int .i64 a0_1] 66 (0, 0)) (by (with_reducible repeat (first | refine zk ?_ _ | refine zm ?_ | refine zh ?_ _)); exact BK390.out) hb); have n1_ := za.mk (zT (by repeat (first | (with_reducible first | exact HB.out | apply zf | apply zb | apply zg | refine zi ?_ GE390.out) | exact HB.out)) hb); have n2_ := za.mk (hbox); have n3_ := za.mk ((by rw [hg]; exact (zB (by repeat (first | (with_reducible first | exact HB.out | apply zf | apply zb | apply zg | refine zi ?_ GE390.out) | exact HB.out))) : w.heap.size ≤ gb391)); have n4_ := za.mk ((by rw [hg]; exact (zB (by repeat (first | (with_reducible first | exact HB.out | apply zf | apply zb | apply zg | refine zi ?_ GE390.out) | exact HB.out))) : w.heap.size ≤ gb391)); have n5_ := za.mk ((by rw [hg]; exact Nat.ne_of_lt (qg (g := gb390) (o := .cells #[.int .i64 a0_0, .int .i64 a0_1] 66 (0, 0)) (by (with_reducible repeat (first | refine zk ?_ _ | refine zm ?_ | refine zh ?_ _)); exact BK390.out)) : gb390 ≠ gb391)); have n6_ := za.mk ((by rw [hg]; exact Nat.ne_of_gt (qg (g := gb390) (o := .cells #[.int .i64 a0_0, .int .i64 a0_1] 66 (0, 0)) (by (with_reducible repeat (first | refine zk ?_ _ | refine zm ?_ | refine zh ?_ _)); exact BK390.out)) : gb391 ≠ gb390)); clear BK390; clear HB; have BK390 := n0_; have HB := n1_; have BK391 := n2_; have GW391 := n3_; have GE391 := n4_; have NB390_391 := n5_; have NB391_390 := n6_; clear n0_ n1_ n2_ n3_ n4_ n5_ n6_; clear hb hbox hg; have hnb12 := NB390_391.out; have hnc12 := NB391_390.out; have hcz13_0 : w11.cell? ⟨gb390, 0, none⟩ = some (.int .i64 a0_0) := (ze BK390.out 0).trans rfl; have hcz13_1 : w11.cell? ⟨gb390, 1, none⟩ = some (.int .i64 a0_1) := (ze BK390.out 1).trans rfl; have hfz13_0 := zl BK390.out 0; have hfz13_1 := zl BK390.out 1; have hcz14_0 : w11.cell? ⟨gb391, 0, none⟩ = some (.int .i64 a1_0) := (ze BK391.out 0).trans rfl; have hcz14_1 : w11.cell? ⟨gb391, 1, none⟩ = some (.int .i64 a1_1) := (ze BK391.out 1).trans rfl; have hfz14_0 := zl BK391.out 0; have hfz14_1 := zl BK391.out 1))
   go_ret
   exact ⟨by first | rfl | (simp [zQ, zP] <;> rfl) | (simp [*, zQ, zP] <;> rfl), by repeat (first | (with_reducible first | exact HB.out | apply zf | apply zb | apply zg | refine zi ?_ GE390.out | refine zi ?_ GE391.out) | exact HB.out)⟩
  ·rw [if_neg c9] at H
   have c9b0 : (a0_0 == a1_0) = false := beq_eq_false_iff_ne.mpr c9
   have c9b1 : (a0_0 != a1_0) = true := bne_iff_ne.mpr c9
   obtain rfl := Option.some.inj H
   go_enter Try.func66, Try.ntmps66
   go_wp2_with (first | ((with_reducible refine qJ (N := 2) rfl ?_); refine qI ?hg (N := 2) ?hd (cs := #[.int .i64 a0_0, .int .i64 a0_1]) (t := 66) ?hr ?_; (case hd => rfl); (case hg => rfl); (case hr => first | (go_simp; done) | (go_simp; rfl)); intro gb390 hg w15 hbox hb; have n0_ := za.mk (zT (by repeat (first | (with_reducible first | exact HB.out | apply zf | apply zb | apply zg) | exact HB.out)) hb); have n1_ := za.mk (hbox); have n2_ := za.mk ((by rw [hg]; exact (zB (by repeat (first | (with_reducible first | exact HB.out | apply zf | apply zb | apply zg) | exact HB.out))) : w.heap.size ≤ gb390)); have n3_ := za.mk ((by rw [hg]; exact (zB (by repeat (first | (with_reducible first | exact HB.out | apply zf | apply zb | apply zg) | exact HB.out))) : w.heap.size ≤ gb390)); clear HB; have HB := n0_; have BK390 := n1_; have GW390 := n2_; have GE390 := n3_; clear n0_ n1_ n2_ n3_; clear hb hbox hg) | ((with_reducible refine qJ (N := 3) rfl ?_); refine qI ?hg (N := 3) ?hd (cs := #[.int .i64 a1_0, .int .i64 a1_1]) (t := 66) ?hr ?_; (case hd => rfl); (case hg => rfl); (case hr => first | (go_simp; done) | (go_simp; rfl)); intro gb391 hg w16 hbox hb; have n0_ := za.mk (zW (g := gb390) (o := .cells #[.int .i64 a0_0, .int .i64 a0_1] 66 (0, 0)) (by (with_reducible repeat (first | refine zk ?_ _ | refine zm ?_ | refine zh ?_ _)); exact BK390.out) hb); have n1_ := za.mk (zT (by repeat (first | (with_reducible first | exact HB.out | apply zf | apply zb | apply zg | refine zi ?_ GE390.out) | exact HB.out)) hb); have n2_ := za.mk (hbox); have n3_ := za.mk ((by rw [hg]; exact (zB (by repeat (first | (with_reducible first | exact HB.out | apply zf | apply zb | apply zg | refine zi ?_ GE390.out) | exact HB.out))) : w.heap.size ≤ gb391)); have n4_ := za.mk ((by rw [hg]; exact (zB (by repeat (first | (with_reducible first | exact HB.out | apply zf | apply zb | apply zg | refine zi ?_ GE390.out) | exact HB.out))) : w.heap.size ≤ gb391)); have n5_ := za.mk ((by rw [hg]; exact Nat.ne_of_lt (qg (g := gb390) (o := .cells #[.int .i64 a0_0, .int .i64 a0_1] 66 (0, 0)) (by (with_reducible repeat (first | refine zk ?_ _ | refine zm ?_ | refine zh ?_ _)); exact BK390.out)) : gb390 ≠ gb391)); have n6_ := za.mk ((by rw [hg]; exact Nat.ne_of_gt (qg (g := gb390) (o := .cells #[.int .i64 a0_0, .int .i64 a0_1] 66 (0, 0)) (by (with_reducible repeat (first | refine zk ?_ _ | refine zm ?_ | refine zh ?_ _)); exact BK390.out)) : gb391 ≠ gb390)); clear BK390; clear HB; have BK390 := n0_; have HB := n1_; have BK391 := n2_; have GW391 := n3_; have GE391 := n4_; have NB390_391 := n5_; have NB391_390 := n6_; clear n0_ n1_ n2_ n3_ n4_ n5_ n6_; clear hb hbox hg; have hnb17 := NB390_391.out; have hnc17 := NB391_390.out; have hcz18_0 : w16.cell? ⟨gb390, 0, none⟩ = some (.int .i64 a0_0) := (ze BK390.out 0).trans rfl; have hcz18_1 : w16.cell? ⟨gb390, 1, none⟩ = some (.int .i64 a0_1) := (ze BK390.out 1).trans rfl; have hfz18_0 := zl BK390.out 0; have hfz18_1 := zl BK390.out 1; have hcz19_0 : w16.cell? ⟨gb391, 0, none⟩ = some (.int .i64 a1_0) := (ze BK391.out 0).trans rfl; have hcz19_1 : w16.cell? ⟨gb391, 1, none⟩ = some (.int .i64 a1_1) := (ze BK391.out 1).trans rfl; have hfz19_0 := zl BK391.out 0; have hfz19_1 := zl BK391.out 1))
   go_ret
   exact ⟨by first | rfl | (simp [zQ, zP] <;> rfl) | (simp [*, zQ, zP] <;> rfl), by repeat (first | (with_reducible first | exact HB.out | apply zf | apply zb | apply zg | refine zi ?_ GE390.out | refine zi ?_ GE391.out) | exact HB.out)⟩
end Go.Proofs.Ytebehdjjkpffjaa.QPlans
end
section
namespace Go.Proofs.Ytebehdjjkpffjaa.QPlans
open Go.RowKit Go.Proofs.YtebehdjjkpffjaaW.PrintWords Go.Proofs.YtebehdjjkpffjaaW.PrintLast Go.Proofs.YtebehdjjkpffjaaW.PrintMore
attribute [local go_sem] ZT ZW Ql Qm ZI ZH ZV ZR
set_option linter.unusedVariables false
set_option linter.unusedSimpArgs false
mutual
def zx.j0 : Nat → Bool → Int → List (S66) → Option (Int)
 | 0, _, _, _ => none
 | k + 1, x12, x393000, x393001 => if x12 = true then (some 1) else (zx.l0 k x393001 (x393001.length : Int) 0 x393000 x393001)
def zx.l0 : Nat → List (S66) → Int → Int → Int → List (S66) → Option (Int)
 | 0, _, _, _, _, _ => none
 | k + 1, x14, x15, x16, x393000, x393001 => if x16 < x15 then (if 0 ≤ x16 then (if x16 < (x14.length : Int) then (if ((zF x14 x16).f0) < 0 then (zx.j2 k x16 x14 x15 x16 true x393000 x393001 ((zF x14 x16).f0) ((zF x14 x16).f1)) else (if ((zF x14 x16).f0) ≥ ((zF x14 x16).f1) then (zx.j2 k x16 x14 x15 x16 true x393000 x393001 ((zF x14 x16).f0) ((zF x14 x16).f1)) else (zx.j2 k x16 x14 x15 x16 (decide (((zF x14 x16).f1) ≥ x393000)) x393000 x393001 ((zF x14 x16).f0) ((zF x14 x16).f1)))) else (none)) else (none)) else (some 0)
def zx.j2 : Nat → Int → List (S66) → Int → Int → Bool → Int → List (S66) → Int → Int → Option (Int)
 | 0, _, _, _, _, _, _, _, _, _ => none
 | k + 1, x3, x14, x15, x16, x37, x393000, x393001, x395000, x395001 => if x37 = true then (some 6) else (if x3 > 0 then (if 0 ≤ (wrap64 (x3 - 1)) then (if (wrap64 (x3 - 1)) < (x393001.length : Int) then ((qY.f ((zF x393001 (wrap64 (x3 - 1))).f0) ((zF x393001 (wrap64 (x3 - 1))).f1) x395000 x395001).bind fun t396 => (if t396 = true then (zx.l0 k x14 x15 (wrap64 (x16 + 1)) x393000 x393001) else (some 5))) else (none)) else (none)) else (zx.l0 k x14 x15 (wrap64 (x16 + 1)) x393000 x393001))
end
def zx.f (k : Nat) (a0_0 : Int) (l0_1 : List (S66)) : Option (Int) := if a0_0 < 0 then (zx.j0 k true a0_0 l0_1) else (zx.j0 k (decide (a0_0 > 64)) a0_0 l0_1)
theorem zx.qV : ∀ k, (∀ y0 y1 y2, LeO (zx.j0 k y0 y1 y2) (zx.j0 (k + 1) y0 y1 y2)) ∧ (∀ y0 y1 y2 y3 y4, LeO (zx.l0 k y0 y1 y2 y3 y4) (zx.l0 (k + 1) y0 y1 y2 y3 y4)) ∧ (∀ y0 y1 y2 y3 y4 y5 y6 y7 y8, LeO (zx.j2 k y0 y1 y2 y3 y4 y5 y6 y7 y8) (zx.j2 (k + 1) y0 y1 y2 y3 y4 y5 y6 y7 y8))
 | 0 => ⟨fun _ _ _ r h => by simp [zx.j0] at h, fun _ _ _ _ _ r h => by simp [zx.l0] at h, fun _ _ _ _ _ _ _ _ _ r h => by simp [zx.j2] at h⟩
 | k + 1 => by
  obtain ⟨ih0, ih1, ih2⟩ := zx.qV k
  refine ⟨?_, ?_, ?_⟩
  ·intro y0 y1 y2
   unfold zx.j0
   repeat' first
   | (with_reducible exact ih0 _ _ _)
   | (with_reducible exact ih1 _ _ _ _ _)
   | (with_reducible exact ih2 _ _ _ _ _ _ _ _ _)
   | (with_reducible exact LeO.refl _)
   | (with_reducible exact LeO.none _)
   | (with_reducible refine LeO.ite ?_ ?_)
   | (with_reducible refine LeO.bind ?_ (fun _ => ?_))
   | exact ih0 _ _ _
   | exact ih1 _ _ _ _ _
   | exact ih2 _ _ _ _ _ _ _ _ _
   | exact LeO.none _
   | refine LeO.ite ?_ ?_
   | refine LeO.bind ?_ (fun _ => ?_)
  ·intro y0 y1 y2 y3 y4
   unfold zx.l0
   repeat' first
   | (with_reducible exact ih0 _ _ _)
   | (with_reducible exact ih1 _ _ _ _ _)
   | (with_reducible exact ih2 _ _ _ _ _ _ _ _ _)
   | (with_reducible exact LeO.refl _)
   | (with_reducible exact LeO.none _)
   | (with_reducible refine LeO.ite ?_ ?_)
   | (with_reducible refine LeO.bind ?_ (fun _ => ?_))
   | exact ih0 _ _ _
   | exact ih1 _ _ _ _ _
   | exact ih2 _ _ _ _ _ _ _ _ _
   | exact LeO.none _
   | refine LeO.ite ?_ ?_
   | refine LeO.bind ?_ (fun _ => ?_)
  ·intro y0 y1 y2 y3 y4 y5 y6 y7 y8
   unfold zx.j2
   repeat' first
   | (with_reducible exact ih0 _ _ _)
   | (with_reducible exact ih1 _ _ _ _ _)
   | (with_reducible exact ih2 _ _ _ _ _ _ _ _ _)
   | (with_reducible exact LeO.refl _)
   | (with_reducible exact LeO.none _)
   | (with_reducible refine LeO.ite ?_ ?_)
   | (with_reducible refine LeO.bind ?_ (fun _ => ?_))
   | exact ih0 _ _ _
   | exact ih1 _ _ _ _ _
   | exact ih2 _ _ _ _ _ _ _ _ _
   | exact LeO.none _
   | refine LeO.ite ?_ ?_
   | refine LeO.bind ?_ (fun _ => ?_)
theorem zx.mono : ∀ a0 a1 k, LeO (zx.f k a0 a1) (zx.f (k + 1) a0 a1) := by
 intro a0 a1 k
 obtain ⟨ih0, ih1, ih2⟩ := zx.qV k
 unfold zx.f
 repeat' first
  | (with_reducible exact ih0 _ _ _)
  | (with_reducible exact ih1 _ _ _ _ _)
  | (with_reducible exact ih2 _ _ _ _ _ _ _ _ _)
  | (with_reducible exact LeO.refl _)
  | (with_reducible exact LeO.none _)
  | (with_reducible refine LeO.ite ?_ ?_)
  | (with_reducible refine LeO.bind ?_ (fun _ => ?_))
  | exact ih0 _ _ _
  | exact ih1 _ _ _ _ _
  | exact ih2 _ _ _ _ _ _ _ _ _
  | exact LeO.none _
  | refine LeO.ite ?_ ?_
  | refine LeO.bind ?_ (fun _ => ?_)
def zx.T8 : Bool × List (List Nat × List Nat) := (true, [([], []), ([0], [0]), ([1], [1]), ([2], [2]), ([3, 2], [2, 3]), ([2], [2]), ([5, 2], [2, 5]), ([4, 6, 2], [2, 4, 6]), ([7, 2], [2, 7]), ([2], [2]), ([8, 9, 2, 2], [2, 8, 9]), ([10, 2], [2, 10]), ([2, 11], [2, 11])])
def zx.B8 : List Nat := [0, 1, 3, 7, 15, 7, 39, 127, 255, 7, 1023, 2047, 4095]
theorem zx.tab8 : rtab .any (opsOf Try.f39 8) = zx.T8 := by kernel_rfl
theorem zx.bits8 : waitsOk zx.T8.2 zx.B8 = true := by kernel_rfl
set_option maxHeartbeats 8000000 in
set_option maxRecDepth 100000 in
theorem zx.calls (k : Nat) (a0_0 : Int) (A0_1 : Option Addr) (c0_1 : Nat) (l0_1 : List (S66)) (r : Int) (w : World) (hr0_1 : Kd.C k66 w A0_1 l0_1.length l0_1) (hc0_1 : l0_1.length ≤ c0_1) (h : zx.f k a0_0 l0_1 = some r) :
  Calls Try.prog 39 #[.agg #[.int .i64 a0_0, .slice A0_1 l0_1.length c0_1]] w fun e w' => e = .returned (.int .i64 r) ∧ Below w.heap.size w w' := by
 have hu29 := Try.underlying29
 have hu66 := Try.underlying66
 have HR0_1 := za.mk hr0_1
 have HC0_1 := za.mk hc0_1
 clear hr0_1 hc0_1
 have HB := za.mk (Below.refl w.heap.size w)
 have H : (if a0_0 < 0 then (zx.j0 k true a0_0 l0_1) else (zx.j0 k (decide (a0_0 > 64)) a0_0 l0_1)) = some r := h
 clear h
 have HC2 := za.mk H
 clear H
 go_enter Try.func39, Try.ntmps39
 go_upto_region 1 with (first | ((with_reducible refine qJ (N := 1) rfl ?_); refine qI ?hg (N := 1) ?hd (cs := #[.int .i64 a0_0, .slice A0_1 l0_1.length c0_1]) (t := 29) ?hr ?_; (case hd => rfl); (case hg => rfl); (case hr => first | (go_simp; done) | (go_simp; rfl)); intro gb392 hg w3 hbox hb; have n0_ := za.mk (zT (by repeat (first | (with_reducible first | exact HB.out | apply zf | apply zb | apply zg) | exact HB.out)) hb); have n1_ := za.mk (hbox); have n2_ := za.mk ((by rw [hg]; exact (zB (by repeat (first | (with_reducible first | exact HB.out | apply zf | apply zb | apply zg) | exact HB.out))) : w.heap.size ≤ gb392)); have n3_ := za.mk ((by rw [hg]; exact (zB (by repeat (first | (with_reducible first | exact HB.out | apply zf | apply zb | apply zg) | exact HB.out))) : w.heap.size ≤ gb392)); clear HB; have HB := n0_; have BK392 := n1_; have GW392 := n2_; have GE392 := n3_; clear n0_ n1_ n2_ n3_; clear hb hbox hg))
 (try simp only [Act.put, List.setIfInBounds_toArray, List.set_cons_zero, List.set_cons_succ])
 go_cut [12] (fun v12 wc => ∃ (kq : Nat) (x12_1 : Bool), v12 = .bool x12_1 ∧ za (zx.j0 kq x12_1 a0_0 l0_1 = some r) ∧ za (kq ≤ k) ∧ za (wc.heap[gb392]? = some (.cells #[.int .i64 a0_0, (.slice A0_1 l0_1.length c0_1)] 29 (0, 0))) ∧ za (Below w.heap.size w wc))
 case first =>
  have H := HC2.out
  clear HC2
  by_cases c4 : a0_0 < 0
  ·rw [if_pos c4] at H
   have c4b0 : decide (a0_0 < 0) = true := decide_eq_true c4
   clear c4
   (first | rw [c4b0] | (simp only [qh, qj]; rw [c4b0]) | skip)
   have H' := za.mk H
   clear H
   have hcz5_0 : w3.cell? ⟨gb392, 0, none⟩ = some (.int .i64 a0_0) := (ze BK392.out 0).trans rfl
   have hcz5_1 : w3.cell? ⟨gb392, 1, none⟩ = some (.slice A0_1 l0_1.length c0_1) := (ze BK392.out 1).trans rfl
   have hfz5_0 := zl BK392.out 0
   have hfz5_1 := zl BK392.out 1
   go_wp2
   go_meet
   case rel => exact ⟨_, (true), (by first | rfl | (simp; done) | (simp [*]; done)), H', ⟨by first | omega | exact Nat.le_refl _⟩, ⟨by (with_reducible repeat (first | refine zk ?_ _ | refine zm ?_ | refine zh ?_ _)); exact BK392.out⟩, ⟨by repeat (first | (with_reducible first | exact HB.out | apply zf | apply zb | apply zg | refine zi ?_ GE392.out) | exact HB.out)⟩⟩
  ·rw [if_neg c4] at H
   have c4b0 : decide (a0_0 < 0) = false := decide_eq_false c4
   clear c4
   (first | rw [c4b0] | (simp only [qh, qj]; rw [c4b0]) | skip)
   have H' := za.mk H
   clear H
   have hcz6_0 : w3.cell? ⟨gb392, 0, none⟩ = some (.int .i64 a0_0) := (ze BK392.out 0).trans rfl
   have hcz6_1 : w3.cell? ⟨gb392, 1, none⟩ = some (.slice A0_1 l0_1.length c0_1) := (ze BK392.out 1).trans rfl
   have hfz6_0 := zl BK392.out 0
   have hfz6_1 := zl BK392.out 1
   go_wp2
   go_meet
   case rel => exact ⟨_, (decide (a0_0 > 64)), (by first | rfl | (simp; done) | (simp [*]; done)), H', ⟨by first | omega | exact Nat.le_refl _⟩, ⟨by (with_reducible repeat (first | refine zk ?_ _ | refine zm ?_ | refine zh ?_ _)); exact BK392.out⟩, ⟨by repeat (first | (with_reducible first | exact HB.out | apply zf | apply zb | apply zg | refine zi ?_ GE392.out) | exact HB.out)⟩⟩
 case rest =>
  clear HC2
  try clear p2
  try clear c3
  try clear c4
  try clear c4b0
  try clear hcz5_0
  try clear hcz5_1
  try clear hcz6_0
  try clear hcz6_1
  try clear hfz5_0
  try clear hfz5_1
  try clear hfz6_0
  try clear hfz6_1
  obtain ⟨kq, x12_1, rfl, HA, HJ1, BK392, HB⟩ := hcut
  cases kq with
  | zero => exact absurd HA.out (by simp [zx.j0])
  | succ kj1 =>
   have H := HA.out
   clear HA
   simp only [zx.j0] at H
   by_cases c7 : x12_1 = true
   ·subst c7
    have H1 : (some 1) = some r := by rw [if_pos rfl] at H; exact H
    clear H
    have H := H1
    clear H1
    obtain rfl := Option.some.inj H
    go_wp2
    go_ret
    exact ⟨by first | rfl | (simp [zQ, zP] <;> rfl) | (simp [*, zQ, zP] <;> rfl), by repeat (first | (with_reducible first | exact HB.out | apply zf | apply zb | apply zg | refine zi ?_ GE392.out) | exact HB.out)⟩
   ·replace c7 := Bool.eq_false_iff.mpr c7
    subst c7
    have H1 : (zx.l0 kj1 l0_1 (l0_1.length : Int) 0 a0_0 l0_1) = some r := by rw [if_neg (show ¬ (false = true) by decide)] at H; exact H
    clear H
    have H := H1
    clear H1
    have H' := za.mk H
    clear H
    have hcz8_0 : wc.cell? ⟨gb392, 0, none⟩ = some (.int .i64 a0_0) := (ze BK392.out 0).trans rfl
    have hcz8_1 : wc.cell? ⟨gb392, 1, none⟩ = some (.slice A0_1 l0_1.length c0_1) := (ze BK392.out 1).trans rfl
    have hfz8_0 := zl BK392.out 0
    have hfz8_1 := zl BK392.out 1
    go_wp2
    go_loopg [16] kj1 (fun kq v16 w' => ∃ (x16_2 : Int), v16 = .int .i64 x16_2 ∧ za (zx.l0 kq l0_1 (l0_1.length : Int) x16_2 a0_0 l0_1 = some r) ∧ za (kq ≤ kj1) ∧ za (w'.heap[gb392]? = some (.cells #[.int .i64 a0_0, (.slice A0_1 l0_1.length c0_1)] 29 (0, 0))) ∧ za (Below w.heap.size w w'))
    case atStart => exact ⟨(0), (by first | rfl | (simp; done) | (simp [*]; done)), H', ⟨Nat.le_refl _⟩, ⟨by (with_reducible repeat (first | refine zk ?_ _ | refine zm ?_ | refine zh ?_ _)); exact BK392.out⟩, ⟨by repeat (first | (with_reducible first | exact HB.out | apply zf | apply zb | apply zg | refine zi ?_ GE392.out) | exact HB.out)⟩⟩
    case round =>
     clear H'
     try clear p2
     try clear c3
     try clear c4
     try clear c4b0
     try clear c7
     try clear hcz5_0
     try clear hcz5_1
     try clear hcz6_0
     try clear hcz6_1
     try clear hcz8_0
     try clear hcz8_1
     try clear hfz5_0
     try clear hfz5_1
     try clear hfz6_0
     try clear hfz6_1
     try clear hfz8_0
     try clear hfz8_1
     try clear p2
     obtain ⟨x16_2, rfl, HA, HK2, BK392, HB⟩ := hrel
     cases gk with
     | zero => exact absurd HA.out (by simp [zx.l0])
     | succ k2 =>
      have H := HA.out
      clear HA
      simp only [zx.l0] at H
      by_cases c9 : x16_2 < (l0_1.length : Int)
      ·rw [if_pos c9] at H
       have c9b0 : decide (x16_2 < (l0_1.length : Int)) = true := decide_eq_true c9
       clear c9
       by_cases c10 : 0 ≤ x16_2
       ·rw [if_pos c10] at H
        have c10b0 : decide (0 ≤ x16_2) = true := decide_eq_true c10
        clear c10
        by_cases c11 : x16_2 < (l0_1.length : Int)
        ·rw [if_pos c11] at H
         have c11b0 : decide (x16_2 < (l0_1.length : Int)) = true := decide_eq_true c11
         clear c11
         have HC12 := za.mk H
         clear H
         have p393 : 0 ≤ (x16_2 : Int) := of_decide_eq_true (by first | (with_reducible assumption) | assumption)
         have q393 : x16_2 < (l0_1.length : Int) := of_decide_eq_true (by first | (with_reducible assumption) | assumption)
         obtain ⟨ad393, e393, hx393_0, hx393_1⟩ := at_T66 HR0_1.out x16_2 p393 q393
         cases e393
         replace hx393_0 := (HB.out.cell (World.block_lt_of_cell? w _ hx393_0)).trans hx393_0
         replace hx393_1 := (HB.out.cell (World.block_lt_of_cell? w _ hx393_1)).trans hx393_1
         replace p393 := eq_true p393
         replace q393 := eq_true q393
         go_upto_region 6 with (first | ((with_reducible refine qJ (N := 4) rfl ?_); refine qI ?hg (N := 4) ?hd (cs := #[.int .i64 0, .int .i64 0]) (t := 66) ?hr ?_; (case hd => rfl); (case hg => rfl); (case hr => first | (go_simp; done) | (go_simp; rfl)); intro gb394 hg w13 hbox hb; have n0_ := za.mk (zW (g := gb392) (o := .cells #[.int .i64 a0_0, .slice (some ad393) l0_1.length c0_1] 29 (0, 0)) (by (with_reducible repeat (first | refine zk ?_ _ | refine zm ?_ | refine zh ?_ _)); exact BK392.out) hb); have n1_ := za.mk (zT (by repeat (first | (with_reducible first | exact HB.out | apply zf | apply zb | apply zg | refine zi ?_ GE392.out) | exact HB.out)) hb); have n2_ := za.mk (hbox); have n3_ := za.mk ((by rw [hg]; exact (zB (by repeat (first | (with_reducible first | exact HB.out | apply zf | apply zb | apply zg | refine zi ?_ GE392.out) | exact HB.out))) : w.heap.size ≤ gb394)); have n4_ := za.mk ((by rw [hg]; exact (zB (by repeat (first | (with_reducible first | exact HB.out | apply zf | apply zb | apply zg | refine zi ?_ GE392.out) | exact HB.out))) : w.heap.size ≤ gb394)); have n5_ := za.mk ((by rw [hg]; exact Nat.ne_of_lt (qg (g := gb392) (o := .cells #[.int .i64 a0_0, .slice (some ad393) l0_1.length c0_1] 29 (0, 0)) (by (with_reducible repeat (first | refine zk ?_ _ | refine zm ?_ | refine zh ?_ _)); exact BK392.out)) : gb392 ≠ gb394)); have n6_ := za.mk ((by rw [hg]; exact Nat.ne_of_gt (qg (g := gb392) (o := .cells #[.int .i64 a0_0, .slice (some ad393) l0_1.length c0_1] 29 (0, 0)) (by (with_reducible repeat (first | refine zk ?_ _ | refine zm ?_ | refine zh ?_ _)); exact BK392.out)) : gb394 ≠ gb392)); clear BK392; clear HB; have BK392 := n0_; have HB := n1_; have BK394 := n2_; have GW394 := n3_; have GE394 := n4_; have NB392_394 := n5_; have NB394_392 := n6_; clear n0_ n1_ n2_ n3_ n4_ n5_ n6_; clear hb hbox hg; have hnb14 := NB394_392.out; have hnc14 := NB392_394.out; have hcz15_0 : w13.cell? ⟨gb394, 0, none⟩ = some (.int .i64 0) := (ze BK394.out 0).trans rfl; have hcz15_1 : w13.cell? ⟨gb394, 1, none⟩ = some (.int .i64 0) := (ze BK394.out 1).trans rfl; have hfz15_0 := zl BK394.out 0; have hfz15_1 := zl BK394.out 1))
         (try simp only [Act.put, List.setIfInBounds_toArray, List.set_cons_zero, List.set_cons_succ])
         go_cut [37] (fun v37 wc => ∃ (kq : Nat) (x37_11 : Bool), v37 = .bool x37_11 ∧ za (zx.j2 kq x16_2 l0_1 (l0_1.length : Int) x16_2 x37_11 a0_0 l0_1 ((zF l0_1 x16_2).f0) ((zF l0_1 x16_2).f1) = some r) ∧ za (kq ≤ k2) ∧ za (wc.heap[gb392]? = some (.cells #[.int .i64 a0_0, (.slice (some ad393) l0_1.length c0_1)] 29 (0, 0))) ∧ za (wc.heap[gb394]? = some (.cells #[.int .i64 ((zF l0_1 x16_2).f0), .int .i64 ((zF l0_1 x16_2).f1)] 66 (0, 0))) ∧ za (Below w.heap.size w wc))
         case first =>
          have H := HC12.out
          clear HC12
          by_cases c16 : ((zF l0_1 x16_2).f0) < 0
          ·rw [if_pos c16] at H
           have c16b0 : decide (((zF l0_1 x16_2).f0) < 0) = true := decide_eq_true c16
           clear c16
           (first | rw [c16b0] | (simp only [qh, qj]; rw [c16b0]) | skip)
           have H' := za.mk H
           clear H
           have hnb17 := NB394_392.out
           have hnc17 := NB392_394.out
           have hcz18_0 : w13.cell? ⟨gb394, 0, none⟩ = some (.int .i64 0) := (ze BK394.out 0).trans rfl
           have hcz18_1 : w13.cell? ⟨gb394, 1, none⟩ = some (.int .i64 0) := (ze BK394.out 1).trans rfl
           have hfz18_0 := zl BK394.out 0
           have hfz18_1 := zl BK394.out 1
           go_wp2
           go_meet
           case rel => exact ⟨_, (true), (by first | rfl | (simp; done) | (simp [*]; done)), H', ⟨by have := HJ1.out; have := HK2.out; first | omega | exact Nat.le_refl _⟩, ⟨by (with_reducible repeat (first | refine zk ?_ _ | refine zm ?_ | refine zh ?_ _)); refine ql ?_ NB392_394.out _; (with_reducible repeat (first | refine zk ?_ _ | refine zm ?_ | refine zh ?_ _)); refine ql ?_ NB392_394.out _; (with_reducible repeat (first | refine zk ?_ _ | refine zm ?_ | refine zh ?_ _)); exact BK392.out⟩, ⟨by (with_reducible repeat (first | refine zk ?_ _ | refine zm ?_ | refine zh ?_ _)); refine zX (cs := #[.int .i64 ((zF l0_1 x16_2).f0), .int .i64 0]) ?_ 1 _ rfl; (with_reducible repeat (first | refine zk ?_ _ | refine zm ?_ | refine zh ?_ _)); refine zX (cs := #[.int .i64 0, .int .i64 0]) ?_ 0 _ rfl; (with_reducible repeat (first | refine zk ?_ _ | refine zm ?_ | refine zh ?_ _)); exact BK394.out⟩, ⟨by repeat (first | (with_reducible first | exact HB.out | apply zf | apply zb | apply zg | refine zi ?_ GE392.out | refine zi ?_ GE394.out) | exact HB.out)⟩⟩
          ·rw [if_neg c16] at H
           have c16b0 : decide (((zF l0_1 x16_2).f0) < 0) = false := decide_eq_false c16
           clear c16
           (first | rw [c16b0] | (simp only [qh, qj]; rw [c16b0]) | skip)
           by_cases c19 : ((zF l0_1 x16_2).f0) ≥ ((zF l0_1 x16_2).f1)
           ·rw [if_pos c19] at H
            have c19b0 : decide (((zF l0_1 x16_2).f1) ≤ ((zF l0_1 x16_2).f0)) = true := decide_eq_true c19
            clear c19
            have H' := za.mk H
            clear H
            have hnb20 := NB394_392.out
            have hnc20 := NB392_394.out
            have hcz21_0 : w13.cell? ⟨gb394, 0, none⟩ = some (.int .i64 0) := (ze BK394.out 0).trans rfl
            have hcz21_1 : w13.cell? ⟨gb394, 1, none⟩ = some (.int .i64 0) := (ze BK394.out 1).trans rfl
            have hfz21_0 := zl BK394.out 0
            have hfz21_1 := zl BK394.out 1
            go_wp2
            go_meet
            case rel => exact ⟨_, (true), (by first | rfl | (simp; done) | (simp [*]; done)), H', ⟨by have := HJ1.out; have := HK2.out; first | omega | exact Nat.le_refl _⟩, ⟨by (with_reducible repeat (first | refine zk ?_ _ | refine zm ?_ | refine zh ?_ _)); refine ql ?_ NB392_394.out _; (with_reducible repeat (first | refine zk ?_ _ | refine zm ?_ | refine zh ?_ _)); refine ql ?_ NB392_394.out _; (with_reducible repeat (first | refine zk ?_ _ | refine zm ?_ | refine zh ?_ _)); exact BK392.out⟩, ⟨by (with_reducible repeat (first | refine zk ?_ _ | refine zm ?_ | refine zh ?_ _)); refine zX (cs := #[.int .i64 ((zF l0_1 x16_2).f0), .int .i64 0]) ?_ 1 _ rfl; (with_reducible repeat (first | refine zk ?_ _ | refine zm ?_ | refine zh ?_ _)); refine zX (cs := #[.int .i64 0, .int .i64 0]) ?_ 0 _ rfl; (with_reducible repeat (first | refine zk ?_ _ | refine zm ?_ | refine zh ?_ _)); exact BK394.out⟩, ⟨by repeat (first | (with_reducible first | exact HB.out | apply zf | apply zb | apply zg | refine zi ?_ GE392.out | refine zi ?_ GE394.out) | exact HB.out)⟩⟩
           ·rw [if_neg c19] at H
            have c19b0 : decide (((zF l0_1 x16_2).f1) ≤ ((zF l0_1 x16_2).f0)) = false := decide_eq_false c19
            clear c19
            have H' := za.mk H
            clear H
            have hnb22 := NB394_392.out
            have hnc22 := NB392_394.out
            have hcz23_0 : w13.cell? ⟨gb394, 0, none⟩ = some (.int .i64 0) := (ze BK394.out 0).trans rfl
            have hcz23_1 : w13.cell? ⟨gb394, 1, none⟩ = some (.int .i64 0) := (ze BK394.out 1).trans rfl
            have hfz23_0 := zl BK394.out 0
            have hfz23_1 := zl BK394.out 1
            have hcz24_0 : w13.cell? ⟨gb392, 0, none⟩ = some (.int .i64 a0_0) := (ze BK392.out 0).trans rfl
            have hcz24_1 : w13.cell? ⟨gb392, 1, none⟩ = some (.slice (some ad393) l0_1.length c0_1) := (ze BK392.out 1).trans rfl
            have hfz24_0 := zl BK392.out 0
            have hfz24_1 := zl BK392.out 1
            go_wp2
            go_meet
            case rel => exact ⟨_, (decide (((zF l0_1 x16_2).f1) ≥ a0_0)), (by first | rfl | (simp; done) | (simp [*]; done)), H', ⟨by have := HJ1.out; have := HK2.out; first | omega | exact Nat.le_refl _⟩, ⟨by (with_reducible repeat (first | refine zk ?_ _ | refine zm ?_ | refine zh ?_ _)); refine ql ?_ NB392_394.out _; (with_reducible repeat (first | refine zk ?_ _ | refine zm ?_ | refine zh ?_ _)); refine ql ?_ NB392_394.out _; (with_reducible repeat (first | refine zk ?_ _ | refine zm ?_ | refine zh ?_ _)); exact BK392.out⟩, ⟨by (with_reducible repeat (first | refine zk ?_ _ | refine zm ?_ | refine zh ?_ _)); refine zX (cs := #[.int .i64 ((zF l0_1 x16_2).f0), .int .i64 0]) ?_ 1 _ rfl; (with_reducible repeat (first | refine zk ?_ _ | refine zm ?_ | refine zh ?_ _)); refine zX (cs := #[.int .i64 0, .int .i64 0]) ?_ 0 _ rfl; (with_reducible repeat (first | refine zk ?_ _ | refine zm ?_ | refine zh ?_ _)); exact BK394.out⟩, ⟨by repeat (first | (with_reducible first | exact HB.out | apply zf | apply zb | apply zg | refine zi ?_ GE392.out | refine zi ?_ GE394.out) | exact HB.out)⟩⟩
         case rest =>
          clear HC12
          try clear c1
          try clear c2
          try clear p2
          try clear c3
          try clear p3
          try clear q3
          try clear hx3
          try clear c4
          try clear c4b0
          try clear c7
          try clear c9
          try clear c9b0
          try clear c10
          try clear c10b0
          try clear c11
          try clear c11b0
          try clear c14
          try clear c16
          try clear c16b0
          try clear c17
          try clear c19
          try clear c19b0
          try clear c20
          try clear c22
          try clear hcz15_0
          try clear hcz15_1
          try clear hcz18_0
          try clear hcz18_1
          try clear hcz21_0
          try clear hcz21_1
          try clear hcz23_0
          try clear hcz23_1
          try clear hcz24_0
          try clear hcz24_1
          try clear hcz5_0
          try clear hcz5_1
          try clear hcz6_0
          try clear hcz6_1
          try clear hcz8_0
          try clear hcz8_1
          try clear hfz15_0
          try clear hfz15_1
          try clear hfz18_0
          try clear hfz18_1
          try clear hfz21_0
          try clear hfz21_1
          try clear hfz23_0
          try clear hfz23_1
          try clear hfz24_0
          try clear hfz24_1
          try clear hfz5_0
          try clear hfz5_1
          try clear hfz6_0
          try clear hfz6_1
          try clear hfz8_0
          try clear hfz8_1
          try clear hx393_0
          try clear hx393_1
          try clear p2
          try clear p393
          try clear q393
          obtain ⟨kq, x37_11, rfl, HA, HJ11, BK392, BK394, HB⟩ := hcut
          cases kq with
          | zero => exact absurd HA.out (by simp [zx.j2])
          | succ kj11 =>
           have H := HA.out
           clear HA
           simp only [zx.j2] at H
           by_cases c25 : x37_11 = true
           ·subst c25
            have H1 : (some 6) = some r := by rw [if_pos rfl] at H; exact H
            clear H
            have H := H1
            clear H1
            obtain rfl := Option.some.inj H
            go_wp2
            go_ret
            exact ⟨by first | rfl | (simp [zQ, zP] <;> rfl) | (simp [*, zQ, zP] <;> rfl), by repeat (first | (with_reducible first | exact HB.out | apply zf | apply zb | apply zg | refine zi ?_ GE392.out | refine zi ?_ GE394.out) | exact HB.out)⟩
           ·replace c25 := Bool.eq_false_iff.mpr c25
            subst c25
            have H1 : (if x16_2 > 0 then (if 0 ≤ (wrap64 (x16_2 - 1)) then (if (wrap64 (x16_2 - 1)) < (l0_1.length : Int) then ((qY.f ((zF l0_1 (wrap64 (x16_2 - 1))).f0) ((zF l0_1 (wrap64 (x16_2 - 1))).f1) ((zF l0_1 x16_2).f0) ((zF l0_1 x16_2).f1)).bind fun t396 => (if t396 = true then (zx.l0 kj11 l0_1 (l0_1.length : Int) (wrap64 (x16_2 + 1)) a0_0 l0_1) else (some 5))) else (none)) else (none)) else (zx.l0 kj11 l0_1 (l0_1.length : Int) (wrap64 (x16_2 + 1)) a0_0 l0_1)) = some r := by rw [if_neg (show ¬ (false = true) by decide)] at H; exact H
            clear H
            have H := H1
            clear H1
            by_cases c26 : x16_2 > 0
            ·rw [if_pos c26] at H
             have c26b0 : decide (0 < x16_2) = true := decide_eq_true c26
             clear c26
             obtain ⟨ji27, hji27⟩ : ∃ j_ : Int, (wrap64 (x16_2 - 1)) = j_ := ⟨_, rfl⟩
             replace H : (if 0 ≤ (ji27) then (if (ji27) < (l0_1.length : Int) then ((qY.f ((zF l0_1 (ji27)).f0) ((zF l0_1 (ji27)).f1) ((zF l0_1 x16_2).f0) ((zF l0_1 x16_2).f1)).bind fun t396 => (if t396 = true then (zx.l0 kj11 l0_1 (l0_1.length : Int) (wrap64 (x16_2 + 1)) a0_0 l0_1) else (some 5))) else (none)) else (none)) = some r := by first | (rw [hji27] at H; exact H) | (simp only [hji27] at H ⊢; exact H)
             have hji27w : (IntKind.i64.wrap (x16_2 - 1)) = ji27 := (qh _).trans hji27
             by_cases c28 : 0 ≤ (ji27)
             ·rw [if_pos c28] at H
              have c28b0 : decide (0 ≤ (ji27)) = true := decide_eq_true c28
              clear c28
              by_cases c29 : (ji27) < (l0_1.length : Int)
              ·rw [if_pos c29] at H
               have c29b0 : decide ((ji27) < (l0_1.length : Int)) = true := decide_eq_true c29
               clear c29
               replace H := Option.bind_eq_some_iff.mp H
               obtain ⟨t396, A300, H⟩ := H
               replace H : (if t396 = true then (zx.l0 kj11 l0_1 (l0_1.length : Int) (wrap64 (x16_2 + 1)) a0_0 l0_1) else (some 5)) = some r := H
               have A30 := za.mk A300
               clear A300
               by_cases c31 : t396 = true
               ·subst c31
                have H1 : (zx.l0 kj11 l0_1 (l0_1.length : Int) (wrap64 (x16_2 + 1)) a0_0 l0_1) = some r := by rw [if_pos rfl] at H; exact H
                clear H
                have H := H1
                clear H1
                have H' := za.mk H
                clear H
                try go_wp2
                have n0_ := za.mk (zm BK392.out)
                have n1_ := za.mk (zm BK394.out)
                have n2_ := za.mk (zg HB.out)
                clear BK392
                clear BK394
                clear HB
                have BK392 := n0_
                have BK394 := n1_
                have HB := n2_
                clear n0_ n1_ n2_
                have p395 : 0 ≤ ((ji27) : Int) := of_decide_eq_true (by first | (with_reducible assumption) | assumption)
                have q395 : (ji27) < (l0_1.length : Int) := of_decide_eq_true (by first | (with_reducible assumption) | assumption)
                obtain ⟨ad395, e395, hx395_0, hx395_1⟩ := at_T66 HR0_1.out (ji27) p395 q395
                have hw395_1 := hx395_1
                have hw395_0 := hx395_0
                obtain rfl : ad393 = ad395 := (by injection e395)
                replace hx395_0 := (HB.out.cell (World.block_lt_of_cell? w _ hx395_0)).trans hx395_0
                replace hx395_1 := (HB.out.cell (World.block_lt_of_cell? w _ hx395_1)).trans hx395_1
                replace p395 := eq_true p395
                replace q395 := eq_true q395
                refine start_ (n := 13) (S := fun w' => w'.cell? ⟨gb392, 0, none⟩ = some (.int .i64 a0_0) ∧ w'.cell? ⟨gb392, 1, none⟩ = some (.slice (some ad393) l0_1.length c0_1) ∧ w'.cell? ⟨gb394, 0, none⟩ = some (.int .i64 ((zF l0_1 x16_2).f0)) ∧ w'.cell? ⟨gb394, 1, none⟩ = some (.int .i64 ((zF l0_1 x16_2).f1)) ∧ w'.cell? (ad393.add (((ji27)).toNat * 2)) = some (.int .i64 ((zF l0_1 (ji27)).f0)) ∧ w'.cell? ⟨(ad393.add (((ji27)).toNat * 2)).block, (ad393.add (((ji27)).toNat * 2)).off + 1, none⟩ = some (.int .i64 ((zF l0_1 (ji27)).f1))) (ds := []) #[false, false, false, false, false, false, false, false, false, false, false, false, false] (by kernel_rfl) rfl rfl ⟨(ze BK392.out 0).trans rfl, (ze BK392.out 1).trans rfl, (ze BK394.out 0).trans rfl, (ze BK394.out 1).trans rfl, ((HB.out.cell (World.block_lt_of_cell? w _ hw395_0)).trans hw395_0), ((HB.out.cell (World.block_lt_of_cell? w _ hw395_1)).trans hw395_1)⟩ (fun hHeld => ?_); refine ZX zx.tab8 zx.bits8 (fun HT_ HW_ => ?_)
                generalize wc.drew = w32 at BK392 BK394 HB hx395_0 hx395_1 hHeld ⊢
                refine qK (i := 0) (N := some 38) (v := ?_) (a' := ?_) #[true, false, false, false, false, false, false, false, false, false, false, false, false] rfl rfl (qy HT_.out (by kernel_rfl)) (fun _ _ _ h => h) (Or.inl ⟨by rfl, ?_⟩) ?_ ?_
                rotate_left
                ·intro w'
                 go_simp
                 with_reducible rfl
                rotate_left
                ·simp only [Act.put, List.setIfInBounds_toArray, List.set_cons_zero, List.set_cons_succ, qh, qj]
                 rfl
                refine qK (i := 1) (N := some 39) (v := ?_) (a' := ?_) #[true, true, false, false, false, false, false, false, false, false, false, false, false] rfl rfl (qy HT_.out (by kernel_rfl)) (fun _ _ _ h => h) (Or.inl ⟨by rfl, ?_⟩) ?_ ?_
                rotate_left
                ·intro w'
                 go_simp
                 with_reducible rfl
                rotate_left
                ·simp only [Act.put, List.setIfInBounds_toArray, List.set_cons_zero, List.set_cons_succ, qh, qj]
                 rfl
                refine qK (i := 2) (N := some 40) (v := ?_) (a' := ?_) #[true, true, true, false, false, false, false, false, false, false, false, false, false] rfl rfl (qy HT_.out (by kernel_rfl)) (fun _ _ _ h => h) (Or.inl ⟨by rfl, ?_⟩) ?_ ?_
                rotate_left
                ·intro w'
                 go_simp
                 with_reducible rfl
                rotate_left
                ·simp only [Act.put, List.setIfInBounds_toArray, List.set_cons_zero, List.set_cons_succ, qh, qj]
                 rfl
                refine qK (i := 3) (N := some 41) (v := ?_) (a' := ?_) #[true, true, true, true, false, false, false, false, false, false, false, false, false] rfl rfl (qy HT_.out (by kernel_rfl)) (fun _ _ _ h => h) (Or.inl ⟨by rfl, ?_⟩) ?_ ?_
                rotate_left
                ·intro w'
                 go_simp
                 with_reducible rfl
                rotate_left
                ·simp only [Act.put, List.setIfInBounds_toArray, List.set_cons_zero, List.set_cons_succ, qh, qj]
                 rfl
                refine qK (i := 5) (N := some 43) (v := ?_) (a' := ?_) #[true, true, true, true, false, true, false, false, false, false, false, false, false] rfl rfl (qy HT_.out (by kernel_rfl)) (fun _ _ _ h => h) (Or.inl ⟨by rfl, ?_⟩) ?_ ?_
                rotate_left
                ·intro w'
                 go_simp
                 with_reducible rfl
                rotate_left
                ·simp only [Act.put, List.setIfInBounds_toArray, List.set_cons_zero, List.set_cons_succ, qh, qj]
                 rfl
                refine qK (i := 6) (N := some 44) (v := ?_) (a' := ?_) #[true, true, true, true, false, true, true, false, false, false, false, false, false] rfl rfl (qy HT_.out (by kernel_rfl)) (fun _ _ _ h => h) (Or.inl ⟨by rfl, ?_⟩) ?_ ?_
                rotate_left
                ·intro w'
                 go_simp
                 with_reducible rfl
                rotate_left
                ·simp only [Act.put, List.setIfInBounds_toArray, List.set_cons_zero, List.set_cons_succ, qh, qj]
                 rfl
                refine take_ (i := 4) (N := some 42) (v := ?_) (a' := ?_) #[true, true, true, true, true, true, true, false, false, false, false, false, false] rfl rfl (Zw HT_.out HW_.out (by kernel_rfl)) (fun _ _ _ h => h) (Or.inl ⟨by rfl, ?_⟩) hHeld ?_ ?_
                rotate_left
                ·rintro w' ⟨s0, s1, s2, s3, s4, s5⟩
                 go_simp
                 with_reducible rfl
                rotate_left
                ·simp only [Act.put, List.setIfInBounds_toArray, List.set_cons_zero, List.set_cons_succ, qh, qj]
                 rfl
                refine qK (i := 7) (N := some 45) (v := ?_) (a' := ?_) #[true, true, true, true, true, true, true, true, false, false, false, false, false] rfl rfl (qy HT_.out (by kernel_rfl)) (fun _ _ _ h => h) (Or.inl ⟨by rfl, ?_⟩) ?_ ?_
                rotate_left
                ·intro w'
                 go_simp
                 with_reducible rfl
                rotate_left
                ·simp only [Act.put, List.setIfInBounds_toArray, List.set_cons_zero, List.set_cons_succ, qh, qj]
                 rfl
                refine take_ (i := 8) (N := some 46) (v := ?_) (a' := ?_) #[true, true, true, true, true, true, true, true, true, false, false, false, false] rfl rfl (Zw HT_.out HW_.out (by kernel_rfl)) (fun _ _ _ h => h) (Or.inl ⟨by rfl, ?_⟩) hHeld ?_ ?_
                rotate_left
                ·rintro w' ⟨s0, s1, s2, s3, s4, s5⟩
                 go_simp
                 with_reducible rfl
                rotate_left
                ·simp only [Act.put, List.setIfInBounds_toArray, List.set_cons_zero, List.set_cons_succ, qh, qj]
                 rfl
                refine take_ (i := 9) (N := some 47) (v := ?_) (a' := ?_) #[true, true, true, true, true, true, true, true, true, true, false, false, false] rfl rfl (Zw HT_.out HW_.out (by kernel_rfl)) (fun _ _ _ h => h) (Or.inl ⟨by rfl, ?_⟩) hHeld ?_ ?_
                rotate_left
                ·rintro w' ⟨s0, s1, s2, s3, s4, s5⟩
                 go_simp
                 with_reducible rfl
                rotate_left
                ·simp only [Act.put, List.setIfInBounds_toArray, List.set_cons_zero, List.set_cons_succ, qh, qj]
                 rfl
                refine one_ (i := 10) (N := some 48) #[true, true, true, true, true, true, true, true, true, true, true, false, false] rfl rfl (Qh HT_.out (by kernel_rfl)) (by decide) (fun K hK => ?_)
                refine goes_ Try.func66 (by kernel_rfl) rfl #[.agg #[.int .i64 ((zF l0_1 (ji27)).f0), .int .i64 ((zF l0_1 (ji27)).f1)], .agg #[.int .i64 ((zF l0_1 x16_2).f0), .int .i64 ((zF l0_1 x16_2).f1)]] (by rfl) rfl rfl (by (try simp only [List.map_toArray, List.map_cons, List.map_nil]); first | done | (simp only [hji27]; rfl) | rfl | (simp only [List.length_drop, List.length_take]; rfl)) ?_
                with_reducible refine (qY.calls ((zF l0_1 (ji27)).f0) ((zF l0_1 (ji27)).f1) ((zF l0_1 x16_2).f0) ((zF l0_1 x16_2).f1) true _ A30.out).mono ?_
                rintro e w33 ⟨rfl, hb⟩
                refine ⟨_, rfl, ?_⟩
                have n0_ := za.mk (zW (g := gb392) (o := .cells #[.int .i64 a0_0, .slice (some ad393) l0_1.length c0_1] 29 (0, 0)) (by (with_reducible repeat (first | refine zk ?_ _ | refine zm ?_ | refine zh ?_ _)); exact BK392.out) hb)
                have n1_ := za.mk (zW (g := gb394) (o := .cells #[.int .i64 ((zF l0_1 x16_2).f0), .int .i64 ((zF l0_1 x16_2).f1)] 66 (0, 0)) (by (with_reducible repeat (first | refine zk ?_ _ | refine zm ?_ | refine zh ?_ _)); exact BK394.out) hb)
                have n2_ := za.mk (zT (by repeat (first | (with_reducible first | exact HB.out | apply zf | apply zb | apply zg | refine zi ?_ GE392.out | refine zi ?_ GE394.out) | exact HB.out)) hb)
                clear BK392
                clear BK394
                clear HB
                have BK392 := n0_
                have BK394 := n1_
                have HB := n2_
                clear n0_ n1_ n2_
                (try clear hb)
                (try clear hb2)
                (try clear hk)
                (try clear hi)
                refine hK.out _ _ ⟨(ze BK392.out 0).trans rfl, (ze BK392.out 1).trans rfl, (ze BK394.out 0).trans rfl, (ze BK394.out 1).trans rfl, ((HB.out.cell (World.block_lt_of_cell? w _ hw395_0)).trans hw395_0), ((HB.out.cell (World.block_lt_of_cell? w _ hw395_1)).trans hw395_1)⟩ (fun hHeld => ?_)
                clear hK K
                refine norm_ (a' := ?_) ?_ ?_
                rotate_left
                ·show Act.put _ (some 48) _ = _
                 simp only [Act.put, List.setIfInBounds_toArray, List.set_cons_zero, List.set_cons_succ, qh, qj]
                 rfl
                refine qK (i := 11) (N := some 49) (v := ?_) (a' := ?_) #[true, true, true, true, true, true, true, true, true, true, true, true, false] rfl rfl (qy HT_.out (by kernel_rfl)) (fun _ _ _ h => h) (Or.inl ⟨by rfl, ?_⟩) ?_ ?_
                rotate_left
                ·intro w'
                 go_simp
                 with_reducible rfl
                rotate_left
                ·simp only [Act.put, List.setIfInBounds_toArray, List.set_cons_zero, List.set_cons_succ, qh, qj]
                 rfl
                refine qK (i := 12) (N := some 50) (v := ?_) (a' := ?_) #[true, true, true, true, true, true, true, true, true, true, true, true, true] rfl rfl (qy HT_.out (by kernel_rfl)) (fun _ _ _ h => h) (Or.inl ⟨by rfl, ?_⟩) ?_ ?_
                rotate_left
                ·intro w'
                 go_simp
                 with_reducible rfl
                rotate_left
                ·simp only [Act.put, List.setIfInBounds_toArray, List.set_cons_zero, List.set_cons_succ, qh, qj]
                 rfl
                refine done_ (done_of HT_.out (by kernel_rfl)) ?_
                try go_wp2
                go_roundg kj11
                case measure => have := HJ1.out; have := HK2.out; have := HJ11.out; omega
                case rel => exact ⟨(wrap64 (x16_2 + 1)), (by first | rfl | (simp; done) | (simp [*]; done)), H', ⟨by have := HJ1.out; have := HK2.out; have := HJ11.out; omega⟩, ⟨by (with_reducible repeat (first | refine zk ?_ _ | refine zm ?_ | refine zh ?_ _)); exact BK392.out⟩, ⟨by repeat (first | (with_reducible first | exact HB.out | apply zf | apply zb | apply zg | refine zi ?_ GE392.out | refine zi ?_ GE394.out) | exact HB.out)⟩⟩
               ·replace c31 := Bool.eq_false_iff.mpr c31
                subst c31
                have H1 : (some 5) = some r := by rw [if_neg (show ¬ (false = true) by decide)] at H; exact H
                clear H
                have H := H1
                clear H1
                obtain rfl := Option.some.inj H
                try go_wp2
                have n0_ := za.mk (zm BK392.out)
                have n1_ := za.mk (zm BK394.out)
                have n2_ := za.mk (zg HB.out)
                clear BK392
                clear BK394
                clear HB
                have BK392 := n0_
                have BK394 := n1_
                have HB := n2_
                clear n0_ n1_ n2_
                have p395 : 0 ≤ ((ji27) : Int) := of_decide_eq_true (by first | (with_reducible assumption) | assumption)
                have q395 : (ji27) < (l0_1.length : Int) := of_decide_eq_true (by first | (with_reducible assumption) | assumption)
                obtain ⟨ad395, e395, hx395_0, hx395_1⟩ := at_T66 HR0_1.out (ji27) p395 q395
                have hw395_1 := hx395_1
                have hw395_0 := hx395_0
                obtain rfl : ad393 = ad395 := (by injection e395)
                replace hx395_0 := (HB.out.cell (World.block_lt_of_cell? w _ hx395_0)).trans hx395_0
                replace hx395_1 := (HB.out.cell (World.block_lt_of_cell? w _ hx395_1)).trans hx395_1
                replace p395 := eq_true p395
                replace q395 := eq_true q395
                refine start_ (n := 13) (S := fun w' => w'.cell? ⟨gb392, 0, none⟩ = some (.int .i64 a0_0) ∧ w'.cell? ⟨gb392, 1, none⟩ = some (.slice (some ad393) l0_1.length c0_1) ∧ w'.cell? ⟨gb394, 0, none⟩ = some (.int .i64 ((zF l0_1 x16_2).f0)) ∧ w'.cell? ⟨gb394, 1, none⟩ = some (.int .i64 ((zF l0_1 x16_2).f1)) ∧ w'.cell? (ad393.add (((ji27)).toNat * 2)) = some (.int .i64 ((zF l0_1 (ji27)).f0)) ∧ w'.cell? ⟨(ad393.add (((ji27)).toNat * 2)).block, (ad393.add (((ji27)).toNat * 2)).off + 1, none⟩ = some (.int .i64 ((zF l0_1 (ji27)).f1))) (ds := []) #[false, false, false, false, false, false, false, false, false, false, false, false, false] (by kernel_rfl) rfl rfl ⟨(ze BK392.out 0).trans rfl, (ze BK392.out 1).trans rfl, (ze BK394.out 0).trans rfl, (ze BK394.out 1).trans rfl, ((HB.out.cell (World.block_lt_of_cell? w _ hw395_0)).trans hw395_0), ((HB.out.cell (World.block_lt_of_cell? w _ hw395_1)).trans hw395_1)⟩ (fun hHeld => ?_); refine ZX zx.tab8 zx.bits8 (fun HT_ HW_ => ?_)
                generalize wc.drew = w34 at BK392 BK394 HB hx395_0 hx395_1 hHeld ⊢
                refine qK (i := 0) (N := some 38) (v := ?_) (a' := ?_) #[true, false, false, false, false, false, false, false, false, false, false, false, false] rfl rfl (qy HT_.out (by kernel_rfl)) (fun _ _ _ h => h) (Or.inl ⟨by rfl, ?_⟩) ?_ ?_
                rotate_left
                ·intro w'
                 go_simp
                 with_reducible rfl
                rotate_left
                ·simp only [Act.put, List.setIfInBounds_toArray, List.set_cons_zero, List.set_cons_succ, qh, qj]
                 rfl
                refine qK (i := 1) (N := some 39) (v := ?_) (a' := ?_) #[true, true, false, false, false, false, false, false, false, false, false, false, false] rfl rfl (qy HT_.out (by kernel_rfl)) (fun _ _ _ h => h) (Or.inl ⟨by rfl, ?_⟩) ?_ ?_
                rotate_left
                ·intro w'
                 go_simp
                 with_reducible rfl
                rotate_left
                ·simp only [Act.put, List.setIfInBounds_toArray, List.set_cons_zero, List.set_cons_succ, qh, qj]
                 rfl
                refine qK (i := 2) (N := some 40) (v := ?_) (a' := ?_) #[true, true, true, false, false, false, false, false, false, false, false, false, false] rfl rfl (qy HT_.out (by kernel_rfl)) (fun _ _ _ h => h) (Or.inl ⟨by rfl, ?_⟩) ?_ ?_
                rotate_left
                ·intro w'
                 go_simp
                 with_reducible rfl
                rotate_left
                ·simp only [Act.put, List.setIfInBounds_toArray, List.set_cons_zero, List.set_cons_succ, qh, qj]
                 rfl
                refine qK (i := 3) (N := some 41) (v := ?_) (a' := ?_) #[true, true, true, true, false, false, false, false, false, false, false, false, false] rfl rfl (qy HT_.out (by kernel_rfl)) (fun _ _ _ h => h) (Or.inl ⟨by rfl, ?_⟩) ?_ ?_
                rotate_left
                ·intro w'
                 go_simp
                 with_reducible rfl
                rotate_left
                ·simp only [Act.put, List.setIfInBounds_toArray, List.set_cons_zero, List.set_cons_succ, qh, qj]
                 rfl
                refine qK (i := 5) (N := some 43) (v := ?_) (a' := ?_) #[true, true, true, true, false, true, false, false, false, false, false, false, false] rfl rfl (qy HT_.out (by kernel_rfl)) (fun _ _ _ h => h) (Or.inl ⟨by rfl, ?_⟩) ?_ ?_
                rotate_left
                ·intro w'
                 go_simp
                 with_reducible rfl
                rotate_left
                ·simp only [Act.put, List.setIfInBounds_toArray, List.set_cons_zero, List.set_cons_succ, qh, qj]
                 rfl
                refine qK (i := 6) (N := some 44) (v := ?_) (a' := ?_) #[true, true, true, true, false, true, true, false, false, false, false, false, false] rfl rfl (qy HT_.out (by kernel_rfl)) (fun _ _ _ h => h) (Or.inl ⟨by rfl, ?_⟩) ?_ ?_
                rotate_left
                ·intro w'
                 go_simp
                 with_reducible rfl
                rotate_left
                ·simp only [Act.put, List.setIfInBounds_toArray, List.set_cons_zero, List.set_cons_succ, qh, qj]
                 rfl
                refine take_ (i := 4) (N := some 42) (v := ?_) (a' := ?_) #[true, true, true, true, true, true, true, false, false, false, false, false, false] rfl rfl (Zw HT_.out HW_.out (by kernel_rfl)) (fun _ _ _ h => h) (Or.inl ⟨by rfl, ?_⟩) hHeld ?_ ?_
                rotate_left
                ·rintro w' ⟨s0, s1, s2, s3, s4, s5⟩
                 go_simp
                 with_reducible rfl
                rotate_left
                ·simp only [Act.put, List.setIfInBounds_toArray, List.set_cons_zero, List.set_cons_succ, qh, qj]
                 rfl
                refine qK (i := 7) (N := some 45) (v := ?_) (a' := ?_) #[true, true, true, true, true, true, true, true, false, false, false, false, false] rfl rfl (qy HT_.out (by kernel_rfl)) (fun _ _ _ h => h) (Or.inl ⟨by rfl, ?_⟩) ?_ ?_
                rotate_left
                ·intro w'
                 go_simp
                 with_reducible rfl
                rotate_left
                ·simp only [Act.put, List.setIfInBounds_toArray, List.set_cons_zero, List.set_cons_succ, qh, qj]
                 rfl
                refine take_ (i := 8) (N := some 46) (v := ?_) (a' := ?_) #[true, true, true, true, true, true, true, true, true, false, false, false, false] rfl rfl (Zw HT_.out HW_.out (by kernel_rfl)) (fun _ _ _ h => h) (Or.inl ⟨by rfl, ?_⟩) hHeld ?_ ?_
                rotate_left
                ·rintro w' ⟨s0, s1, s2, s3, s4, s5⟩
                 go_simp
                 with_reducible rfl
                rotate_left
                ·simp only [Act.put, List.setIfInBounds_toArray, List.set_cons_zero, List.set_cons_succ, qh, qj]
                 rfl
                refine take_ (i := 9) (N := some 47) (v := ?_) (a' := ?_) #[true, true, true, true, true, true, true, true, true, true, false, false, false] rfl rfl (Zw HT_.out HW_.out (by kernel_rfl)) (fun _ _ _ h => h) (Or.inl ⟨by rfl, ?_⟩) hHeld ?_ ?_
                rotate_left
                ·rintro w' ⟨s0, s1, s2, s3, s4, s5⟩
                 go_simp
                 with_reducible rfl
                rotate_left
                ·simp only [Act.put, List.setIfInBounds_toArray, List.set_cons_zero, List.set_cons_succ, qh, qj]
                 rfl
                refine one_ (i := 10) (N := some 48) #[true, true, true, true, true, true, true, true, true, true, true, false, false] rfl rfl (Qh HT_.out (by kernel_rfl)) (by decide) (fun K hK => ?_)
                refine goes_ Try.func66 (by kernel_rfl) rfl #[.agg #[.int .i64 ((zF l0_1 (ji27)).f0), .int .i64 ((zF l0_1 (ji27)).f1)], .agg #[.int .i64 ((zF l0_1 x16_2).f0), .int .i64 ((zF l0_1 x16_2).f1)]] (by rfl) rfl rfl (by (try simp only [List.map_toArray, List.map_cons, List.map_nil]); first | done | (simp only [hji27]; rfl) | rfl | (simp only [List.length_drop, List.length_take]; rfl)) ?_
                with_reducible refine (qY.calls ((zF l0_1 (ji27)).f0) ((zF l0_1 (ji27)).f1) ((zF l0_1 x16_2).f0) ((zF l0_1 x16_2).f1) false _ A30.out).mono ?_
                rintro e w35 ⟨rfl, hb⟩
                refine ⟨_, rfl, ?_⟩
                have n0_ := za.mk (zW (g := gb392) (o := .cells #[.int .i64 a0_0, .slice (some ad393) l0_1.length c0_1] 29 (0, 0)) (by (with_reducible repeat (first | refine zk ?_ _ | refine zm ?_ | refine zh ?_ _)); exact BK392.out) hb)
                have n1_ := za.mk (zW (g := gb394) (o := .cells #[.int .i64 ((zF l0_1 x16_2).f0), .int .i64 ((zF l0_1 x16_2).f1)] 66 (0, 0)) (by (with_reducible repeat (first | refine zk ?_ _ | refine zm ?_ | refine zh ?_ _)); exact BK394.out) hb)
                have n2_ := za.mk (zT (by repeat (first | (with_reducible first | exact HB.out | apply zf | apply zb | apply zg | refine zi ?_ GE392.out | refine zi ?_ GE394.out) | exact HB.out)) hb)
                clear BK392
                clear BK394
                clear HB
                have BK392 := n0_
                have BK394 := n1_
                have HB := n2_
                clear n0_ n1_ n2_
                (try clear hb)
                (try clear hb2)
                (try clear hk)
                (try clear hi)
                refine hK.out _ _ ⟨(ze BK392.out 0).trans rfl, (ze BK392.out 1).trans rfl, (ze BK394.out 0).trans rfl, (ze BK394.out 1).trans rfl, ((HB.out.cell (World.block_lt_of_cell? w _ hw395_0)).trans hw395_0), ((HB.out.cell (World.block_lt_of_cell? w _ hw395_1)).trans hw395_1)⟩ (fun hHeld => ?_)
                clear hK K
                refine norm_ (a' := ?_) ?_ ?_
                rotate_left
                ·show Act.put _ (some 48) _ = _
                 simp only [Act.put, List.setIfInBounds_toArray, List.set_cons_zero, List.set_cons_succ, qh, qj]
                 rfl
                refine qK (i := 11) (N := some 49) (v := ?_) (a' := ?_) #[true, true, true, true, true, true, true, true, true, true, true, true, false] rfl rfl (qy HT_.out (by kernel_rfl)) (fun _ _ _ h => h) (Or.inl ⟨by rfl, ?_⟩) ?_ ?_
                rotate_left
                ·intro w'
                 go_simp
                 with_reducible rfl
                rotate_left
                ·simp only [Act.put, List.setIfInBounds_toArray, List.set_cons_zero, List.set_cons_succ, qh, qj]
                 rfl
                refine qK (i := 12) (N := some 50) (v := ?_) (a' := ?_) #[true, true, true, true, true, true, true, true, true, true, true, true, true] rfl rfl (qy HT_.out (by kernel_rfl)) (fun _ _ _ h => h) (Or.inl ⟨by rfl, ?_⟩) ?_ ?_
                rotate_left
                ·intro w'
                 go_simp
                 with_reducible rfl
                rotate_left
                ·simp only [Act.put, List.setIfInBounds_toArray, List.set_cons_zero, List.set_cons_succ, qh, qj]
                 rfl
                refine done_ (done_of HT_.out (by kernel_rfl)) ?_
                try go_wp2
                go_ret
                exact ⟨by first | rfl | (simp [zQ, zP] <;> rfl) | (simp only [← hji27]; first | rfl | (simp [zQ, zP] <;> rfl)) | (simp [*, zQ, zP] <;> rfl), by repeat (first | (with_reducible first | exact HB.out | apply zf | apply zb | apply zg | refine zi ?_ GE392.out | refine zi ?_ GE394.out) | exact HB.out)⟩
              ·rw [if_neg c29] at H
               exact absurd H (by simp)
             ·rw [if_neg c28] at H
              exact absurd H (by simp)
            ·rw [if_neg c26] at H
             have c26b0 : decide (0 < x16_2) = false := decide_eq_false c26
             clear c26
             have H' := za.mk H
             clear H
             try go_wp2
             have n0_ := za.mk (zm BK392.out)
             have n1_ := za.mk (zm BK394.out)
             have n2_ := za.mk (zg HB.out)
             clear BK392
             clear BK394
             clear HB
             have BK392 := n0_
             have BK394 := n1_
             have HB := n2_
             clear n0_ n1_ n2_
             refine start_ (n := 13) (S := fun w' => True) (ds := []) #[false, false, false, false, false, false, false, false, false, false, false, false, false] (by kernel_rfl) rfl rfl trivial (fun hHeld => ?_); refine ZX zx.tab8 zx.bits8 (fun HT_ HW_ => ?_)
             generalize wc.drew = w36 at BK392 BK394 HB hHeld ⊢
             refine qK (i := 0) (N := some 38) (v := ?_) (a' := ?_) #[true, false, false, false, false, false, false, false, false, false, false, false, false] rfl rfl (qy HT_.out (by kernel_rfl)) (fun _ _ _ h => h) (Or.inl ⟨by rfl, ?_⟩) ?_ ?_
             rotate_left
             ·intro w'
              go_simp
              with_reducible rfl
             rotate_left
             ·simp only [Act.put, List.setIfInBounds_toArray, List.set_cons_zero, List.set_cons_succ, qh, qj]
              rfl
             refine qK (i := 1) (N := some 39) (v := ?_) (a' := ?_) #[true, true, false, false, false, false, false, false, false, false, false, false, false] rfl rfl (qy HT_.out (by kernel_rfl)) (fun _ _ _ h => h) (Or.inl ⟨by rfl, ?_⟩) ?_ ?_
             rotate_left
             ·intro w'
              go_simp
              with_reducible rfl
             rotate_left
             ·simp only [Act.put, List.setIfInBounds_toArray, List.set_cons_zero, List.set_cons_succ, qh, qj]
              rfl
             refine qK (i := 2) (N := some 40) (v := ?_) (a' := ?_) #[true, true, true, false, false, false, false, false, false, false, false, false, false] rfl rfl (qy HT_.out (by kernel_rfl)) (fun _ _ _ h => h) (Or.inl ⟨by rfl, ?_⟩) ?_ ?_
             rotate_left
             ·intro w'
              go_simp
              with_reducible rfl
             rotate_left
             ·simp only [Act.put, List.setIfInBounds_toArray, List.set_cons_zero, List.set_cons_succ, qh, qj]
              rfl
             refine qK (i := 3) (N := some 41) (v := undef) (a' := ?_) #[true, true, true, true, false, false, false, false, false, false, false, false, false] rfl rfl (qy HT_.out (by kernel_rfl)) (fun _ _ _ h => h) (Or.inr ⟨by rfl, rfl⟩) ?_ ?_
             rotate_left
             ·simp only [Act.put, List.setIfInBounds_toArray, List.set_cons_zero, List.set_cons_succ, qh, qj]
              rfl
             refine qK (i := 4) (N := some 42) (v := undef) (a' := ?_) #[true, true, true, true, true, false, false, false, false, false, false, false, false] rfl rfl (qy HT_.out (by kernel_rfl)) (fun _ _ _ h => h) (Or.inr ⟨by rfl, rfl⟩) ?_ ?_
             rotate_left
             ·simp only [Act.put, List.setIfInBounds_toArray, List.set_cons_zero, List.set_cons_succ, qh, qj]
              rfl
             refine qK (i := 5) (N := some 43) (v := undef) (a' := ?_) #[true, true, true, true, true, true, false, false, false, false, false, false, false] rfl rfl (qy HT_.out (by kernel_rfl)) (fun _ _ _ h => h) (Or.inr ⟨by rfl, rfl⟩) ?_ ?_
             rotate_left
             ·simp only [Act.put, List.setIfInBounds_toArray, List.set_cons_zero, List.set_cons_succ, qh, qj]
              rfl
             refine qK (i := 6) (N := some 44) (v := undef) (a' := ?_) #[true, true, true, true, true, true, true, false, false, false, false, false, false] rfl rfl (qy HT_.out (by kernel_rfl)) (fun _ _ _ h => h) (Or.inr ⟨by rfl, rfl⟩) ?_ ?_
             rotate_left
             ·simp only [Act.put, List.setIfInBounds_toArray, List.set_cons_zero, List.set_cons_succ, qh, qj]
              rfl
             refine qK (i := 7) (N := some 45) (v := undef) (a' := ?_) #[true, true, true, true, true, true, true, true, false, false, false, false, false] rfl rfl (qy HT_.out (by kernel_rfl)) (fun _ _ _ h => h) (Or.inr ⟨by rfl, rfl⟩) ?_ ?_
             rotate_left
             ·simp only [Act.put, List.setIfInBounds_toArray, List.set_cons_zero, List.set_cons_succ, qh, qj]
              rfl
             refine qK (i := 8) (N := some 46) (v := undef) (a' := ?_) #[true, true, true, true, true, true, true, true, true, false, false, false, false] rfl rfl (qy HT_.out (by kernel_rfl)) (fun _ _ _ h => h) (Or.inr ⟨by rfl, rfl⟩) ?_ ?_
             rotate_left
             ·simp only [Act.put, List.setIfInBounds_toArray, List.set_cons_zero, List.set_cons_succ, qh, qj]
              rfl
             refine qK (i := 9) (N := some 47) (v := undef) (a' := ?_) #[true, true, true, true, true, true, true, true, true, true, false, false, false] rfl rfl (qy HT_.out (by kernel_rfl)) (fun _ _ _ h => h) (Or.inr ⟨by rfl, rfl⟩) ?_ ?_
             rotate_left
             ·simp only [Act.put, List.setIfInBounds_toArray, List.set_cons_zero, List.set_cons_succ, qh, qj]
              rfl
             refine qK (i := 10) (N := some 48) (v := undef) (a' := ?_) #[true, true, true, true, true, true, true, true, true, true, true, false, false] rfl rfl (qy HT_.out (by kernel_rfl)) (fun _ _ _ h => h) (Or.inr ⟨by rfl, rfl⟩) ?_ ?_
             rotate_left
             ·simp only [Act.put, List.setIfInBounds_toArray, List.set_cons_zero, List.set_cons_succ, qh, qj]
              rfl
             refine qK (i := 11) (N := some 49) (v := undef) (a' := ?_) #[true, true, true, true, true, true, true, true, true, true, true, true, false] rfl rfl (qy HT_.out (by kernel_rfl)) (fun _ _ _ h => h) (Or.inr ⟨by rfl, rfl⟩) ?_ ?_
             rotate_left
             ·simp only [Act.put, List.setIfInBounds_toArray, List.set_cons_zero, List.set_cons_succ, qh, qj]
              rfl
             refine qK (i := 12) (N := some 50) (v := ?_) (a' := ?_) #[true, true, true, true, true, true, true, true, true, true, true, true, true] rfl rfl (qy HT_.out (by kernel_rfl)) (fun _ _ _ h => h) (Or.inl ⟨by rfl, ?_⟩) ?_ ?_
             rotate_left
             ·intro w'
              go_simp
              with_reducible rfl
             rotate_left
             ·simp only [Act.put, List.setIfInBounds_toArray, List.set_cons_zero, List.set_cons_succ, qh, qj]
              rfl
             refine done_ (done_of HT_.out (by kernel_rfl)) ?_
             try go_wp2
             go_roundg kj11
             case measure => have := HJ1.out; have := HK2.out; have := HJ11.out; omega
             case rel => exact ⟨(wrap64 (x16_2 + 1)), (by first | rfl | (simp; done) | (simp [*]; done)), H', ⟨by have := HJ1.out; have := HK2.out; have := HJ11.out; omega⟩, ⟨by (with_reducible repeat (first | refine zk ?_ _ | refine zm ?_ | refine zh ?_ _)); exact BK392.out⟩, ⟨by repeat (first | (with_reducible first | exact HB.out | apply zf | apply zb | apply zg | refine zi ?_ GE392.out | refine zi ?_ GE394.out) | exact HB.out)⟩⟩
        ·rw [if_neg c11] at H
         exact absurd H (by simp)
       ·rw [if_neg c10] at H
        exact absurd H (by simp)
      ·rw [if_neg c9] at H
       have c9b0 : decide (x16_2 < (l0_1.length : Int)) = false := decide_eq_false c9
       clear c9
       obtain rfl := Option.some.inj H
       go_wp2
       go_ret
       exact ⟨by first | rfl | (simp [zQ, zP] <;> rfl) | (simp [*, zQ, zP] <;> rfl), by repeat (first | (with_reducible first | exact HB.out | apply zf | apply zb | apply zg | refine zi ?_ GE392.out) | exact HB.out)⟩
end Go.Proofs.Ytebehdjjkpffjaa.QPlans
end
section
namespace Go.Proofs.Ytebehdjjkpffjaa.QPlans
open Go.RowKit Go.Proofs.YtebehdjjkpffjaaW.PrintWords Go.Proofs.YtebehdjjkpffjaaW.PrintLast Go.Proofs.YtebehdjjkpffjaaW.PrintMore
attribute [local go_sem] ZT ZW Ql Qm ZI ZH ZV ZR
set_option linter.unusedVariables false
set_option linter.unusedSimpArgs false
def zK.l0 : Nat → List Int → Int → Int → Option (List Int)
 | 0, _, _, _ => none
 | k + 1, x0, x1, x5 => if x5 < (x0.length : Int) then (if 0 ≤ x5 then (if (rd x0 x5) < x1 then (zK.l0 k x0 x1 (wrap64 (x5 + 1))) else (if (rd x0 x5) = x1 then (some x0) else (if x5 ≤ (x0.length : Int) then ((some (x0.take (x5 : Int).toNat : List Int)).bind fun y399 => (if ([] : List Int).length + y399.length < 17592186044416 then ((some (([] : List Int) ++ y399 : List Int)).bind fun y403 => (if y403.length < 17592186044416 then ((some (y403 ++ [x1] : List Int)).bind fun y406 => ((some (x0.drop (x5 : Int).toNat : List Int)).bind fun y409 => (if y406.length + y409.length < 17592186044416 then (some (y406 ++ y409)) else (none)))) else (none))) else (none))) else (none)))) else (none)) else (if 0 ≤ x5 then (if x5 ≤ (x0.length : Int) then ((some (x0.take (x5 : Int).toNat : List Int)).bind fun y416 => (if ([] : List Int).length + y416.length < 17592186044416 then ((some (([] : List Int) ++ y416 : List Int)).bind fun y420 => (if y420.length < 17592186044416 then ((some (y420 ++ [x1] : List Int)).bind fun y423 => ((some (x0.drop (x5 : Int).toNat : List Int)).bind fun y426 => (if y423.length + y426.length < 17592186044416 then (some (y423 ++ y426)) else (none)))) else (none))) else (none))) else (none)) else (none))
def zK.f (k : Nat) (l0 : List Int) (a1 : Int) : Option (List Int) := zK.l0 k l0 a1 0
theorem zK.qV : ∀ k, (∀ y0 y1 y2, LeO (zK.l0 k y0 y1 y2) (zK.l0 (k + 1) y0 y1 y2))
 | 0 => fun _ _ _ r h => by simp [zK.l0] at h
 | k + 1 => by
  have ih0 := zK.qV k
  ·intro y0 y1 y2
   unfold zK.l0
   repeat' first
   | (with_reducible exact ih0 _ _ _)
   | (with_reducible exact LeO.refl _)
   | (with_reducible exact LeO.none _)
   | (with_reducible refine LeO.ite ?_ ?_)
   | (with_reducible refine LeO.bind ?_ (fun _ => ?_))
   | exact ih0 _ _ _
   | exact LeO.none _
   | refine LeO.ite ?_ ?_
   | refine LeO.bind ?_ (fun _ => ?_)
theorem zK.mono : ∀ a0 a1 k, LeO (zK.f k a0 a1) (zK.f (k + 1) a0 a1) := by
 intro a0 a1 k
 have ih0 := zK.qV k
 unfold zK.f
 repeat' first
  | (with_reducible exact ih0 _ _ _)
  | (with_reducible exact LeO.refl _)
  | (with_reducible exact LeO.none _)
  | (with_reducible refine LeO.ite ?_ ?_)
  | (with_reducible refine LeO.bind ?_ (fun _ => ?_))
  | exact ih0 _ _ _
  | exact LeO.none _
  | refine LeO.ite ?_ ?_
  | refine LeO.bind ?_ (fun _ => ?_)
def zK.T7 : Bool × List (List Nat × List Nat) := (true, [([], []), ([], []), ([1], [1]), ([0, 2], [0, 2]), ([], []), ([], []), ([4, 5], [4, 5]), ([3, 6, 3], [3, 6]), ([7, 7, 0, 1, 2, 3, 4, 5, 6, 7], [7])])
def zK.B7 : List Nat := [0, 0, 2, 7, 0, 0, 48, 127, 255]
theorem zK.tab7 : rtab .any (opsOf Try.f67 7) = zK.T7 := by kernel_rfl
theorem zK.bits7 : waitsOk zK.T7.2 zK.B7 = true := by kernel_rfl
set_option maxHeartbeats 8000000 in
set_option maxRecDepth 100000 in
theorem zK.calls (k : Nat) (P0_ : Nat → Prop) (u9000_ : Value) (l0 : List Int) (a1 : Int) (r : List Int) (w0 w : World) (hB : Below w0.heap.size w0 w) (ho0 : Kd.R (Kd.int .i64) 3 w w0.heap.size P0_ u9000_ l0) (h : zK.f k l0 a1 = some r) :
  Calls Try.prog 67 #[u9000_, .int .i64 a1] w fun e w' => ∃ v0_ : Value, e = .returned (v0_) ∧ Kd.R (Kd.int .i64) 3 w' w0.heap.size (fun k_ => (P0_ k_ ∨ w.heap.size ≤ k_)) v0_ r ∧ Below w0.heap.size w0 w' ∧ Kept w w' (fun k_ => P0_ k_) := by
 have HO0 := za.mk (show Kd.R (Kd.int .i64) 3 w w0.heap.size (fun k_ => (P0_ k_ ∨ w.heap.size ≤ k_)) u9000_ l0 from Kd.zR ho0 (fun k_ hk => (.inl hk)))
 have HK := za.mk (Kept.refl w (fun k_ => P0_ k_))
 have HW0 := za.mk hB.size
 have HB := za.mk hB
 clear hB
 have H : (zK.l0 k l0 a1 0) = some r := h
 clear h
 have H' := za.mk H
 clear H
 go_enter Try.func67, Try.ntmps67
 go_wp2
 go_loopg [5] k (fun kq v5 w' => ∃ (x5_1 : Int), v5 = .int .i64 x5_1 ∧ za (zK.l0 kq l0 a1 x5_1 = some r) ∧ za (kq ≤ k) ∧ za (Kd.R (Kd.int .i64) 3 w' w0.heap.size (fun k_ => (P0_ k_ ∨ w.heap.size ≤ k_)) u9000_ l0) ∧ za (Kept w w' (fun k_ => P0_ k_)) ∧ za (Below w0.heap.size w0 w'))
 case atStart => exact ⟨(0), (by first | rfl | (simp; done) | (simp [*]; done)), H', ⟨Nat.le_refl _⟩, ⟨by (with_reducible repeat (first | apply Kd.zn | apply Kd.zq | apply Kd.zu)); exact HO0.out⟩, ⟨by repeat (first | (with_reducible first | exact HK.out | apply Kept.alloc | apply Kept.drewN | apply Kept.drew) | exact HK.out)⟩, ⟨by repeat (first | (with_reducible first | exact HB.out | apply zf | apply zb | apply zg) | exact HB.out)⟩⟩
 case round =>
  clear H'
  try clear p2
  obtain ⟨x5_1, rfl, HA, HK1, HO_0, HK, HB⟩ := hrel
  cases gk with
  | zero => exact absurd HA.out (by simp [zK.l0])
  | succ k1 =>
   have H := HA.out
   clear HA
   simp only [zK.l0] at H
   by_cases c3 : x5_1 < (l0.length : Int)
   ·rw [if_pos c3] at H
    have c3b0 : decide (x5_1 < (l0.length : Int)) = true := decide_eq_true c3
    clear c3
    by_cases c4 : 0 ≤ x5_1
    ·rw [if_pos c4] at H
     have c4b0 : decide (0 ≤ x5_1) = true := decide_eq_true c4
     clear c4
     by_cases c5 : (rd l0 x5_1) < a1
     ·rw [if_pos c5] at H
      have c5b0 : decide ((rd l0 x5_1) < a1) = true := decide_eq_true c5
      clear c5
      have H' := za.mk H
      clear H
      obtain ⟨Ao6, co6, eo6⟩ := Kd.qC HO_0.out
      subst eo6
      have p397 : 0 ≤ (x5_1 : Int) := of_decide_eq_true (by first | (with_reducible assumption) | assumption)
      have q397 : x5_1 < (l0.length : Int) := of_decide_eq_true (by first | (with_reducible assumption) | assumption)
      obtain ⟨ad397, e397, hx397_0⟩ := Kd.qX (Kd.zO HO_0.out).2.2 x5_1 p397 q397
      cases e397
      replace p397 := eq_true p397
      replace q397 := eq_true q397
      go_wp2
      go_roundg k1
      case measure => have := HK1.out; omega
      case rel => exact ⟨(wrap64 (x5_1 + 1)), (by first | rfl | (simp; done) | (simp [*]; done)), H', ⟨by have := HK1.out; omega⟩, ⟨by (with_reducible repeat (first | apply Kd.zn | apply Kd.zq | apply Kd.zu)); exact HO_0.out⟩, ⟨by repeat (first | (with_reducible first | exact HK.out | apply Kept.alloc | apply Kept.drewN | apply Kept.drew) | exact HK.out)⟩, ⟨by repeat (first | (with_reducible first | exact HB.out | apply zf | apply zb | apply zg) | exact HB.out)⟩⟩
     ·rw [if_neg c5] at H
      have c5b0 : decide ((rd l0 x5_1) < a1) = false := decide_eq_false c5
      clear c5
      by_cases c7 : (rd l0 x5_1) = a1
      ·rw [if_pos c7] at H
       have c7b0 : ((rd l0 x5_1) == a1) = true := beq_iff_eq.mpr c7
       have c7b1 : ((rd l0 x5_1) != a1) = false := bne_eq_false_iff_eq.mpr c7
       clear c7
       obtain rfl := Option.some.inj H
       obtain ⟨Ao8, co8, eo8⟩ := Kd.qC HO_0.out
       subst eo8
       have p397 : 0 ≤ (x5_1 : Int) := of_decide_eq_true (by first | (with_reducible assumption) | assumption)
       have q397 : x5_1 < (l0.length : Int) := of_decide_eq_true (by first | (with_reducible assumption) | assumption)
       obtain ⟨ad397, e397, hx397_0⟩ := Kd.qX (Kd.zO HO_0.out).2.2 x5_1 p397 q397
       cases e397
       replace p397 := eq_true p397
       replace q397 := eq_true q397
       have p398 : 0 ≤ (x5_1 : Int) := of_decide_eq_true (by first | (with_reducible assumption) | assumption)
       have q398 : x5_1 < (l0.length : Int) := of_decide_eq_true (by first | (with_reducible assumption) | assumption)
       obtain ⟨ad398, e398, hx398_0⟩ := Kd.qX (Kd.zO HO_0.out).2.2 x5_1 p398 q398
       obtain rfl : ad397 = ad398 := (by injection e398)
       replace p398 := eq_true p398
       replace q398 := eq_true q398
       go_wp2
       go_ret
       exact ⟨_, by first | rfl | (simp [zQ, zP] <;> rfl) | (simp [*, zQ, zP] <;> rfl), by (with_reducible repeat (first | apply Kd.zn | apply Kd.zq | apply Kd.zu)); exact HO_0.out, by repeat (first | (with_reducible first | exact HB.out | apply zf | apply zb | apply zg) | exact HB.out), by repeat (first | (with_reducible first | exact HK.out | apply Kept.alloc | apply Kept.drewN | apply Kept.drew) | exact HK.out)⟩
      ·rw [if_neg c7] at H
       have c7b0 : ((rd l0 x5_1) == a1) = false := beq_eq_false_iff_ne.mpr c7
       have c7b1 : ((rd l0 x5_1) != a1) = true := bne_iff_ne.mpr c7
       have c9b0 := eq_true (of_decide_eq_true (by first | (with_reducible assumption) | assumption) : 0 ≤ x5_1)
       by_cases c10 : x5_1 ≤ (l0.length : Int)
       ·rw [if_pos c10] at H
        have c10b0 := eq_true c10
        have c10b1 : decide (x5_1 ≤ (l0.length : Int)) = true := decide_eq_true c10
        clear c10
        obtain ⟨y399, hy399⟩ : ∃ y_ : List Int, y_ = (l0.take (x5_1 : Int).toNat) := ⟨_, rfl⟩
        replace H : (if ([] : List Int).length + y399.length < 17592186044416 then ((some (([] : List Int) ++ y399 : List Int)).bind fun y403 => (if y403.length < 17592186044416 then ((some (y403 ++ [a1] : List Int)).bind fun y406 => ((some (l0.drop (x5_1 : Int).toNat : List Int)).bind fun y409 => (if y406.length + y409.length < 17592186044416 then (some (y406 ++ y409)) else (none)))) else (none))) else (none)) = some r := by first | (rw [hy399]; with_reducible exact H) | (have H2_ := (Option.bind_some _ _).symm.trans H; rw [hy399]; with_reducible exact H2_) | (have H2_ := (Option.bind_some _ _).symm.trans H; with_reducible exact H2_) | with_reducible exact H | (rw [hy399]; exact H) | exact H
        have Ny399 := za.mk hy399
        clear hy399
        by_cases c11 : ([] : List Int).length + y399.length < 17592186044416
        ·rw [if_pos c11] at H
         have LMc11 := za.mk c11
         clear c11
         obtain ⟨y403, hy403⟩ : ∃ y_ : List Int, y_ = (([] : List Int) ++ y399) := ⟨_, rfl⟩
         replace H : (if y403.length < 17592186044416 then ((some (y403 ++ [a1] : List Int)).bind fun y406 => ((some (l0.drop (x5_1 : Int).toNat : List Int)).bind fun y409 => (if y406.length + y409.length < 17592186044416 then (some (y406 ++ y409)) else (none)))) else (none)) = some r := by first | (rw [hy403]; with_reducible exact H) | (have H2_ := (Option.bind_some _ _).symm.trans H; rw [hy403]; with_reducible exact H2_) | (have H2_ := (Option.bind_some _ _).symm.trans H; with_reducible exact H2_) | with_reducible exact H | (rw [hy403]; exact H) | exact H
         have Ny403 := za.mk hy403
         clear hy403
         by_cases c12 : y403.length < 17592186044416
         ·rw [if_pos c12] at H
          have LMc12 := za.mk c12
          clear c12
          obtain ⟨y406, hy406⟩ : ∃ y_ : List Int, y_ = (y403 ++ [a1]) := ⟨_, rfl⟩
          replace H : ((some (l0.drop (x5_1 : Int).toNat : List Int)).bind fun y409 => (if y406.length + y409.length < 17592186044416 then (some (y406 ++ y409)) else (none))) = some r := by first | (rw [hy406]; with_reducible exact H) | (have H2_ := (Option.bind_some _ _).symm.trans H; rw [hy406]; with_reducible exact H2_) | (have H2_ := (Option.bind_some _ _).symm.trans H; with_reducible exact H2_) | with_reducible exact H | (rw [hy406]; exact H) | exact H
          have Ny406 := za.mk hy406
          clear hy406
          have c13b0 := eq_true (of_decide_eq_true (by first | (with_reducible assumption) | assumption) : 0 ≤ x5_1)
          have c14b0 := eq_true (of_decide_eq_true (by first | (with_reducible assumption) | assumption) : x5_1 ≤ (l0.length : Int))
          obtain ⟨y409, hy409⟩ : ∃ y_ : List Int, y_ = (l0.drop (x5_1 : Int).toNat) := ⟨_, rfl⟩
          replace H : (if y406.length + y409.length < 17592186044416 then (some (y406 ++ y409)) else (none)) = some r := by first | (rw [hy409]; with_reducible exact H) | (have H2_ := (Option.bind_some _ _).symm.trans H; rw [hy409]; with_reducible exact H2_) | (have H2_ := (Option.bind_some _ _).symm.trans H; with_reducible exact H2_) | with_reducible exact H | (rw [hy409]; exact H) | exact H
          have Ny409 := za.mk hy409
          clear hy409
          by_cases c15 : y406.length + y409.length < 17592186044416
          ·rw [if_pos c15] at H
           have LMc15 := za.mk c15
           clear c15
           obtain ⟨y413, hy413⟩ : ∃ y_ : List Int, y_ = (y406 ++ y409) := ⟨_, rfl⟩
           replace H : (some y413) = some r := by first | (rw [hy413]; with_reducible exact H) | (have H2_ := (Option.bind_some _ _).symm.trans H; rw [hy413]; with_reducible exact H2_) | (have H2_ := (Option.bind_some _ _).symm.trans H; with_reducible exact H2_) | with_reducible exact H | (rw [hy413]; exact H) | exact H
           have Ny413 := za.mk hy413
           clear hy413
           obtain rfl := Option.some.inj H
           obtain ⟨Ao16, co16, eo16⟩ := Kd.qC HO_0.out
           subst eo16
           have p397 : 0 ≤ (x5_1 : Int) := of_decide_eq_true (by first | (with_reducible assumption) | assumption)
           have q397 : x5_1 < (l0.length : Int) := of_decide_eq_true (by first | (with_reducible assumption) | assumption)
           obtain ⟨ad397, e397, hx397_0⟩ := Kd.qX (Kd.zO HO_0.out).2.2 x5_1 p397 q397
           cases e397
           replace p397 := eq_true p397
           replace q397 := eq_true q397
           have p398 : 0 ≤ (x5_1 : Int) := of_decide_eq_true (by first | (with_reducible assumption) | assumption)
           have q398 : x5_1 < (l0.length : Int) := of_decide_eq_true (by first | (with_reducible assumption) | assumption)
           obtain ⟨ad398, e398, hx398_0⟩ := Kd.qX (Kd.zO HO_0.out).2.2 x5_1 p398 q398
           obtain rfl : ad397 = ad398 := (by injection e398)
           replace p398 := eq_true p398
           replace q398 := eq_true q398
           have q17 : (x5_1 : Int) ≤ ((l0.length : Int) : Int) := of_decide_eq_true (by first | (with_reducible assumption) | assumption)
           obtain ⟨i017, hi017, _, hsz17, _⟩ := info_parts info3
           have hroom17 : l0.length ≤ co16 := (Kd.zO HO_0.out).2.1
           have hC17 : Kd.C (Kd.int .i64) _ (some ad397) l0.length l0 := (Kd.zO HO_0.out).2.2
           have hcut17 := cut_to (P := Try.prog) 22 3 .i64 Try.underlying22 hi017 (some ad397) l0.length co16 x5_1 (of_decide_eq_true (by first | (with_reducible assumption) | assumption)) q17 hroom17
           have hr17 := Kd.C_take (m := (x5_1 : Int).toNat) hC17 (by omega)
           have hy17 : y399.length = (x5_1 : Int).toNat := (by rw [Ny399.out, List.length_take]; omega)
           rw [← Ny399.out] at hr17
           rw [← hy17] at hcut17
           have HR402 := za.mk hr17
           have HC402 := za.mk (show y399.length ≤ co16 from by omega)
           clear hr17 hC17 hroom17 hi017 hsz17
           have KY17 := za.mk hy17
           clear hy17
           have KL17 := za.mk (show (x5_1 : Int).toNat ≤ l0.length from by omega)
           replace q17 := eq_true q17
           try go_wp2_with (first | ((with_reducible refine Zb (b := .append) (xs := #[.const (.slice none 0 0), .tmp 36]) rfl ?_); at_builtin; refine Kd.R_append_rows (Kd.int .i64) (w0 := w0) w0.heap.size rfl (.const (.slice none 0 0)) (.tmp 36) 22 3 (.int .i64 0) 8 rfl Try.underlying22 info3 rfl (by decide) (by omega) (.slice none 0 0) ([] : List Int) y399 _ _ _ (fun k_ => (P0_ k_ ∨ w.heap.size ≤ k_) ∧ some k_ ≠ (.slice (some ad397) l0.length co16 : Value).ownBlock) (fun _ => False) rfl rfl ?aO ?aR (fun _ _ h => h) (fun _ h => h.elim) ?aF ?aB ?aS ?aL ?_; (case aR => repeat (first | exact (by repeat (first | (with_reducible exact HR402.out) | (with_reducible refine Kd.qA ?_ _) | (with_reducible refine Kd.qz ?_ _) | (with_reducible refine Kd.qF ?_) | exact HR402.out)) | (with_reducible refine Kd.qA ?_ _) | (with_reducible refine Kd.qz ?_ _) | (with_reducible refine Kd.qF ?_))); (case aB => exact (by repeat (first | (with_reducible first | exact HB.out | apply zf | apply zb | apply zg) | exact HB.out))); (case aF => exact (fun k_ hk => ⟨(.inr (Nat.le_trans (by first | exact HK.out.1 | exact (show Kept w _ (fun k_ => P0_ k_) from by repeat (first | (with_reducible first | exact HK.out | apply Kept.alloc | apply Kept.drewN | apply Kept.drew) | exact HK.out)).1) hk)), Kd.fresh' (Kd.R_lt (by (with_reducible repeat (first | apply Kd.zn | apply Kd.zq | apply Kd.zu)); exact HO_0.out)) k_ hk⟩)); (case aO => exact ((Kd.ZO _ _ _ _ (fun k_ => (P0_ k_ ∨ w.heap.size ≤ k_) ∧ some k_ ≠ (.slice (some ad397) l0.length co16 : Value).ownBlock)))); (case aS => exact (zB (by repeat (first | (with_reducible first | exact HB.out | apply zf | apply zb | apply zg) | exact HB.out)))); (case aL => have := LMc11.out; omega); intro v404 w18 ho hb hg hat; rw [← Ny403.out] at ho; have n0_ := za.mk (Kd.Zf (Kd.R_apart_nil (by (with_reducible repeat (first | apply Kd.zn | apply Kd.zq | apply Kd.zu)); exact HO_0.out)) hg hat); have n1_ := za.mk (hb); have n2_ := za.mk (Kept.Qf (S := (fun k_ => P0_ k_)) hg (by repeat (first | (with_reducible first | exact HK.out | apply Kept.alloc | apply Kept.drewN | apply Kept.drew) | exact HK.out)) (fun k_ e_ => by simp [Value.ownBlock] at e_)); have n3_ := za.mk ((show Kd.C (Kd.int .i64) w18 (some ad397) y399.length y399 from by rw [Ny399.out]; exact Kd.C_take (m := (x5_1 : Int).toNat) ((Kd.zO (Kd.Zf (Kd.R_apart_nil (by (with_reducible repeat (first | apply Kd.zn | apply Kd.zq | apply Kd.zu)); exact HO_0.out)) hg hat)).2.2) KL17.out)); have n4_ := za.mk (ho); clear HO_0; clear HB; clear HK; clear HR402; have HO_0 := n0_; have HB := n1_; have HK := n2_; have HR402 := n3_; have HO405 := n4_; clear n0_ n1_ n2_ n3_ n4_; clear ho hb hg hat))
           have n0_ := za.mk (Kd.zu HO_0.out)
           have n1_ := za.mk (Kd.zu HO405.out)
           have n2_ := za.mk (Kd.qF HR402.out)
           have n3_ := za.mk (Kept.drew HK.out)
           have n4_ := za.mk (zg HB.out)
           clear HO_0
           clear HO405
           clear HR402
           clear HK
           clear HB
           have HO_0 := n0_
           have HO405 := n1_
           have HR402 := n2_
           have HK := n3_
           have HB := n4_
           clear n0_ n1_ n2_ n3_ n4_
           have q20 : (x5_1 : Int) ≤ ((l0.length : Int) : Int) := of_decide_eq_true (by first | (with_reducible assumption) | assumption)
           obtain ⟨i020, hi020, _, hsz20, _⟩ := info_parts info3
           have hroom20 : l0.length ≤ co16 := (Kd.zO HO_0.out).2.1
           have hC20 : Kd.C (Kd.int .i64) _ (some ad397) l0.length l0 := (Kd.zO HO_0.out).2.2
           have q020 : (0 : Int) ≤ (x5_1 : Int) := of_decide_eq_true (by first | (with_reducible assumption) | assumption)
           have hcut20 := cut_from (P := Try.prog) 22 3 .i64 Try.underlying22 hi020 1 hsz20 (some ad397) l0.length co16 x5_1 q020 q20
           have hr20 := Kd.C_drop (m := (x5_1 : Int).toNat) (c := co16) hC20 (by omega) hroom20
           obtain ⟨A20, hA20⟩ : ∃ A1, A1 = (if co16 = (x5_1 : Int).toNat then (some ad397) else ((some ad397) : Option Addr).map (·.add ((x5_1 : Int).toNat * 1))) := ⟨_, rfl⟩
           obtain ⟨c20, hc20⟩ : ∃ c1, c1 = co16 - (x5_1 : Int).toNat := ⟨_, rfl⟩
           have hy20 : y409.length = l0.length - (x5_1 : Int).toNat := (by rw [Ny409.out, List.length_drop] <;> omega)
           rw [show (l0).drop (x5_1 : Int).toNat = y409 from Ny409.out.symm] at hr20
           replace hr20 : Kd.C (Kd.int .i64) _ A20 y409.length y409 := (by rw [hA20]; exact hr20)
           rw [← hy20, ← hA20, ← hc20] at hcut20
           have HR412 := za.mk hr20
           have HC412 := za.mk (show y409.length ≤ c20 from by rw [hy20, hc20]; exact Nat.sub_le_sub_right hroom20 _)
           clear hr20 hC20 hroom20 hi020 hsz20 hc20
           have KY20 := za.mk hy20
           have KA20 := za.mk hA20
           clear hy20 hA20
           have KL20 := za.mk (show (x5_1 : Int).toNat ≤ l0.length from by omega)
           replace q20 := eq_true q20
           refine start_ (n := 9) (S := fun w' => True) (ds := []) #[false, false, false, false, false, false, false, false, false] (by kernel_rfl) rfl rfl trivial (fun hHeld => ?_); refine ZX zK.tab7 zK.bits7 (fun HT_ HW_ => ?_)
           generalize w18.drew = w19 at HO_0 HO405 HR402 HK HB HR412 hHeld ⊢
           refine qK (i := 0) (N := some 38) (v := ?_) (a' := ?_) #[true, false, false, false, false, false, false, false, false] rfl rfl (qy HT_.out (by kernel_rfl)) (fun _ _ _ h => h) (Or.inl ⟨by rfl, ?_⟩) ?_ ?_
           rotate_left
           ·intro w'
            go_simp
            with_reducible rfl
           rotate_left
           ·simp only [Act.put, List.setIfInBounds_toArray, List.set_cons_zero, List.set_cons_succ, qh, qj]
            rfl
           refine qK (i := 1) (N := some 39) (v := ?_) (a' := ?_) #[true, true, false, false, false, false, false, false, false] rfl rfl (qy HT_.out (by kernel_rfl)) (fun _ _ _ h => h) (Or.inl ⟨by rfl, ?_⟩) ?_ ?_
           rotate_left
           ·intro w'
            go_simp
            with_reducible rfl
           rotate_left
           ·simp only [Act.put, List.setIfInBounds_toArray, List.set_cons_zero, List.set_cons_succ, qh, qj]
            rfl
           refine qK (i := 4) (N := some 42) (v := ?_) (a' := ?_) #[true, true, false, false, true, false, false, false, false] rfl rfl (qy HT_.out (by kernel_rfl)) (fun _ _ _ h => h) (Or.inl ⟨by rfl, ?_⟩) ?_ ?_
           rotate_left
           ·intro w'
            go_simp
            with_reducible rfl
           rotate_left
           ·simp only [Act.put, List.setIfInBounds_toArray, List.set_cons_zero, List.set_cons_succ, qh, qj]
            rfl
           refine qK (i := 5) (N := some 43) (v := ?_) (a' := ?_) #[true, true, false, false, true, true, false, false, false] rfl rfl (qy HT_.out (by kernel_rfl)) (fun _ _ _ h => h) (Or.inl ⟨by rfl, ?_⟩) ?_ ?_
           rotate_left
           ·intro w'
            go_simp
            with_reducible rfl
           rotate_left
           ·simp only [Act.put, List.setIfInBounds_toArray, List.set_cons_zero, List.set_cons_succ, qh, qj]
            rfl
           refine qK (i := 6) (N := some 44) (v := ?_) (a' := ?_) #[true, true, false, false, true, true, true, false, false] rfl rfl (qy HT_.out (by kernel_rfl)) (fun _ _ _ h => h) (Or.inl ⟨by rfl, ?_⟩) ?_ ?_
           rotate_left
           ·intro w'
            go_simp
            with_reducible rfl
           rotate_left
           ·simp only [Act.put, List.setIfInBounds_toArray, List.set_cons_zero, List.set_cons_succ, qh, qj]
            rfl
           refine one_ (i := 2) (N := some 40) #[true, true, true, false, true, true, true, false, false] rfl rfl (Qh HT_.out (by kernel_rfl)) (by decide) (fun K hK => ?_)
           refine value_ (w1 := ?_) (v := ?_) (by rfl) rfl ?_ ?_
           rotate_left 2
           ·go_simp
            constructor
            ·rfl
            ·rfl
           refine hK.out _ _ trivial (fun hHeld => ?_)
           clear hK K
           refine norm_ (a' := ?_) ?_ ?_
           rotate_left
           ·show Act.put _ (some 40) _ = _
            simp only [Act.put, List.setIfInBounds_toArray, List.set_cons_zero, List.set_cons_succ, qh, qj]
            rfl
           refine one_ (i := 3) (N := some 41) #[true, true, true, true, true, true, true, false, false] rfl rfl (Qh HT_.out (by kernel_rfl)) (by decide) (fun K hK => ?_)
           refine Kd.R_append_step (Kd.int .i64) (w0 := w0) w0.heap.size (by rfl) (.tmp 38) (.tmp 40) 22 3 (.int .i64 0) 8 rfl Try.underlying22 info3 rfl (by decide) (by omega) v404 y403 a1 [.int .i64 a1] (fun k_ => (P0_ k_ ∨ w.heap.size ≤ k_) ∧ some k_ ≠ (.slice (some ad397) l0.length co16 : Value).ownBlock) (fun _ => False) rfl rfl ?aP (fun _ hk => hk.elim) ?aF ?aO ?aB ?aS ?aL ?_
           (case aP => exact rfl)
           (case aB => exact (by repeat (first | (with_reducible first | exact HB.out | apply zf | apply zb | apply zg) | exact HB.out)))
           (case aF => exact (fun k_ hk => ⟨(.inr (Nat.le_trans (by first | exact HK.out.1 | exact (show Kept w _ (fun k_ => P0_ k_) from by repeat (first | (with_reducible first | exact HK.out | apply Kept.alloc | apply Kept.drewN | apply Kept.drew) | exact HK.out)).1) hk)), Kd.fresh' (Kd.R_lt (by (with_reducible repeat (first | apply Kd.zn | apply Kd.zq | apply Kd.zu)); exact HO_0.out)) k_ hk⟩))
           (case aO => exact (by (with_reducible repeat (first | apply Kd.zn | apply Kd.zq | apply Kd.zu)); exact HO405.out))
           (case aS => exact (zB (by repeat (first | (with_reducible first | exact HB.out | apply zf | apply zb | apply zg) | exact HB.out))))
           (case aL => have := LMc12.out; omega)
           intro v407 w21 ho hb hg hat
           rw [← Ny406.out] at ho
           have n0_ := za.mk (Kd.Zf (ok := (fun k_ => (P0_ k_ ∨ w.heap.size ≤ k_))) (by (with_reducible repeat (first | apply Kd.zn | apply Kd.zq | apply Kd.zu)); exact HO_0.out) hg hat)
           have n1_ := za.mk (hb)
           have n2_ := za.mk (Kept.Qf (S := (fun k_ => P0_ k_)) hg (by repeat (first | (with_reducible first | exact HK.out | apply Kept.alloc | apply Kept.drewN | apply Kept.drew) | exact HK.out)) (fun k_ e_ => (HO405.out.1 k_ e_).1))
           have n3_ := za.mk ((show Kd.C (Kd.int .i64) w21 (some ad397) y399.length y399 from by rw [Ny399.out]; exact Kd.C_take (m := (x5_1 : Int).toNat) ((Kd.zO (Kd.Zf (ok := (fun k_ => (P0_ k_ ∨ w.heap.size ≤ k_))) (by (with_reducible repeat (first | apply Kd.zn | apply Kd.zq | apply Kd.zu)); exact HO_0.out) hg hat)).2.2) KL17.out))
           have n4_ := za.mk ((show Kd.C (Kd.int .i64) w21 A20 y409.length y409 from by rw [Ny409.out, KA20.out]; exact Kd.C_drop (m := (x5_1 : Int).toNat) (c := co16) ((Kd.zO (Kd.Zf (ok := (fun k_ => (P0_ k_ ∨ w.heap.size ≤ k_))) (by (with_reducible repeat (first | apply Kd.zn | apply Kd.zq | apply Kd.zu)); exact HO_0.out) hg hat)).2.2) KL20.out ((Kd.zO (Kd.Zf (ok := (fun k_ => (P0_ k_ ∨ w.heap.size ≤ k_))) (by (with_reducible repeat (first | apply Kd.zn | apply Kd.zq | apply Kd.zu)); exact HO_0.out) hg hat)).2.1)))
           have n5_ := za.mk (ho)
           clear HO_0
           clear HB
           clear HK
           clear HR402
           clear HR412
           clear HO405
           have HO_0 := n0_
           have HB := n1_
           have HK := n2_
           have HR402 := n3_
           have HR412 := n4_
           have HO408 := n5_
           clear n0_ n1_ n2_ n3_ n4_ n5_
           clear ho hb hg hat
           refine hK.out _ _ trivial (fun hHeld => ?_)
           clear hK K
           refine norm_ (a' := ?_) ?_ ?_
           rotate_left
           ·show Act.put _ (some 41) _ = _
            simp only [Act.put, List.setIfInBounds_toArray, List.set_cons_zero, List.set_cons_succ, qh, qj]
            rfl
           refine one_ (i := 7) (N := some 45) #[true, true, true, true, true, true, true, true, false] rfl rfl (Qh HT_.out (by kernel_rfl)) (by decide) (fun K hK => ?_)
           refine Kd.Qn (Kd.int .i64) (w0 := w0) w0.heap.size (by rfl) (.tmp 41) (.tmp 44) 22 3 (.int .i64 0) 8 rfl Try.underlying22 info3 rfl (by decide) (by omega) v407 y406 y409 _ _ _ (fun k_ => (P0_ k_ ∨ w.heap.size ≤ k_) ∧ some k_ ≠ (.slice (some ad397) l0.length co16 : Value).ownBlock) (fun _ => False) rfl rfl ?aO ?aR (fun _ _ h => h) (fun _ h => h.elim) ?aF ?aB ?aS ?aL ?_
           (case aR => repeat (first | exact (by repeat (first | (with_reducible exact HR412.out) | (with_reducible refine Kd.qA ?_ _) | (with_reducible refine Kd.qz ?_ _) | (with_reducible refine Kd.qF ?_) | exact HR412.out)) | (with_reducible refine Kd.qA ?_ _) | (with_reducible refine Kd.qz ?_ _) | (with_reducible refine Kd.qF ?_)))
           (case aB => exact (by repeat (first | (with_reducible first | exact HB.out | apply zf | apply zb | apply zg) | exact HB.out)))
           (case aF => exact (fun k_ hk => ⟨(.inr (Nat.le_trans (by first | exact HK.out.1 | exact (show Kept w _ (fun k_ => P0_ k_) from by repeat (first | (with_reducible first | exact HK.out | apply Kept.alloc | apply Kept.drewN | apply Kept.drew) | exact HK.out)).1) hk)), Kd.fresh' (Kd.R_lt (by (with_reducible repeat (first | apply Kd.zn | apply Kd.zq | apply Kd.zu)); exact HO_0.out)) k_ hk⟩))
           (case aO => exact (by (with_reducible repeat (first | apply Kd.zn | apply Kd.zq | apply Kd.zu)); exact HO408.out))
           (case aS => exact (zB (by repeat (first | (with_reducible first | exact HB.out | apply zf | apply zb | apply zg) | exact HB.out))))
           (case aL => have := LMc15.out; omega)
           intro v414 w22 ho hb hg hat
           rw [← Ny413.out] at ho
           have n0_ := za.mk (Kd.Zf (ok := (fun k_ => (P0_ k_ ∨ w.heap.size ≤ k_))) (by (with_reducible repeat (first | apply Kd.zn | apply Kd.zq | apply Kd.zu)); exact HO_0.out) hg hat)
           have n1_ := za.mk (hb)
           have n2_ := za.mk (Kept.Qf (S := (fun k_ => P0_ k_)) hg (by repeat (first | (with_reducible first | exact HK.out | apply Kept.alloc | apply Kept.drewN | apply Kept.drew) | exact HK.out)) (fun k_ e_ => (HO408.out.1 k_ e_).1))
           have n3_ := za.mk ((show Kd.C (Kd.int .i64) w22 (some ad397) y399.length y399 from by rw [Ny399.out]; exact Kd.C_take (m := (x5_1 : Int).toNat) ((Kd.zO (Kd.Zf (ok := (fun k_ => (P0_ k_ ∨ w.heap.size ≤ k_))) (by (with_reducible repeat (first | apply Kd.zn | apply Kd.zq | apply Kd.zu)); exact HO_0.out) hg hat)).2.2) KL17.out))
           have n4_ := za.mk ((show Kd.C (Kd.int .i64) w22 A20 y409.length y409 from by rw [Ny409.out, KA20.out]; exact Kd.C_drop (m := (x5_1 : Int).toNat) (c := co16) ((Kd.zO (Kd.Zf (ok := (fun k_ => (P0_ k_ ∨ w.heap.size ≤ k_))) (by (with_reducible repeat (first | apply Kd.zn | apply Kd.zq | apply Kd.zu)); exact HO_0.out) hg hat)).2.2) KL20.out ((Kd.zO (Kd.Zf (ok := (fun k_ => (P0_ k_ ∨ w.heap.size ≤ k_))) (by (with_reducible repeat (first | apply Kd.zn | apply Kd.zq | apply Kd.zu)); exact HO_0.out) hg hat)).2.1)))
           have n5_ := za.mk (ho)
           clear HO_0
           clear HB
           clear HK
           clear HR402
           clear HR412
           clear HO408
           have HO_0 := n0_
           have HB := n1_
           have HK := n2_
           have HR402 := n3_
           have HR412 := n4_
           have HO415 := n5_
           clear n0_ n1_ n2_ n3_ n4_ n5_
           clear ho hb hg hat
           refine hK.out _ _ trivial (fun hHeld => ?_)
           clear hK K
           refine norm_ (a' := ?_) ?_ ?_
           rotate_left
           ·show Act.put _ (some 45) _ = _
            simp only [Act.put, List.setIfInBounds_toArray, List.set_cons_zero, List.set_cons_succ, qh, qj]
            rfl
           refine qK (i := 8) (N := some 4) (v := ?_) (a' := ?_) #[true, true, true, true, true, true, true, true, true] rfl rfl (qy HT_.out (by kernel_rfl)) (fun _ _ _ h => h) (Or.inl ⟨by rfl, ?_⟩) ?_ ?_
           rotate_left
           ·intro w'
            go_simp
            with_reducible rfl
           rotate_left
           ·simp only [Act.put, List.setIfInBounds_toArray, List.set_cons_zero, List.set_cons_succ, qh, qj]
            rfl
           refine done_ (done_of HT_.out (by kernel_rfl)) ?_
           try go_wp2
           go_ret
           exact ⟨_, by first | rfl | (simp [zQ, zP] <;> rfl) | (simp [*, zQ, zP] <;> rfl), by (with_reducible repeat (first | apply Kd.zn | apply Kd.zq | apply Kd.zu)); exact Kd.zR HO415.out (fun _ hk => hk.1), by repeat (first | (with_reducible first | exact HB.out | apply zf | apply zb | apply zg) | exact HB.out), by repeat (first | (with_reducible first | exact HK.out | apply Kept.alloc | apply Kept.drewN | apply Kept.drew) | exact HK.out)⟩
          ·rw [if_neg c15] at H
           exact absurd H (by simp)
         ·rw [if_neg c12] at H
          exact absurd H (by simp)
        ·rw [if_neg c11] at H
         exact absurd H (by simp)
       ·rw [if_neg c10] at H
        exact absurd H (by simp)
    ·rw [if_neg c4] at H
     exact absurd H (by simp)
   ·rw [if_neg c3] at H
    have c3b0 : decide (x5_1 < (l0.length : Int)) = false := decide_eq_false c3
    clear c3
    by_cases c23 : 0 ≤ x5_1
    ·rw [if_pos c23] at H
     have c23b0 := eq_true c23
     have c23b1 : decide (0 ≤ x5_1) = true := decide_eq_true c23
     clear c23
     by_cases c24 : x5_1 ≤ (l0.length : Int)
     ·rw [if_pos c24] at H
      have c24b0 := eq_true c24
      have c24b1 : decide (x5_1 ≤ (l0.length : Int)) = true := decide_eq_true c24
      clear c24
      obtain ⟨y416, hy416⟩ : ∃ y_ : List Int, y_ = (l0.take (x5_1 : Int).toNat) := ⟨_, rfl⟩
      replace H : (if ([] : List Int).length + y416.length < 17592186044416 then ((some (([] : List Int) ++ y416 : List Int)).bind fun y420 => (if y420.length < 17592186044416 then ((some (y420 ++ [a1] : List Int)).bind fun y423 => ((some (l0.drop (x5_1 : Int).toNat : List Int)).bind fun y426 => (if y423.length + y426.length < 17592186044416 then (some (y423 ++ y426)) else (none)))) else (none))) else (none)) = some r := by first | (rw [hy416]; with_reducible exact H) | (have H2_ := (Option.bind_some _ _).symm.trans H; rw [hy416]; with_reducible exact H2_) | (have H2_ := (Option.bind_some _ _).symm.trans H; with_reducible exact H2_) | with_reducible exact H | (rw [hy416]; exact H) | exact H
      have Ny416 := za.mk hy416
      clear hy416
      by_cases c25 : ([] : List Int).length + y416.length < 17592186044416
      ·rw [if_pos c25] at H
       have LMc25 := za.mk c25
       clear c25
       obtain ⟨y420, hy420⟩ : ∃ y_ : List Int, y_ = (([] : List Int) ++ y416) := ⟨_, rfl⟩
       replace H : (if y420.length < 17592186044416 then ((some (y420 ++ [a1] : List Int)).bind fun y423 => ((some (l0.drop (x5_1 : Int).toNat : List Int)).bind fun y426 => (if y423.length + y426.length < 17592186044416 then (some (y423 ++ y426)) else (none)))) else (none)) = some r := by first | (rw [hy420]; with_reducible exact H) | (have H2_ := (Option.bind_some _ _).symm.trans H; rw [hy420]; with_reducible exact H2_) | (have H2_ := (Option.bind_some _ _).symm.trans H; with_reducible exact H2_) | with_reducible exact H | (rw [hy420]; exact H) | exact H
       have Ny420 := za.mk hy420
       clear hy420
       by_cases c26 : y420.length < 17592186044416
       ·rw [if_pos c26] at H
        have LMc26 := za.mk c26
        clear c26
        obtain ⟨y423, hy423⟩ : ∃ y_ : List Int, y_ = (y420 ++ [a1]) := ⟨_, rfl⟩
        replace H : ((some (l0.drop (x5_1 : Int).toNat : List Int)).bind fun y426 => (if y423.length + y426.length < 17592186044416 then (some (y423 ++ y426)) else (none))) = some r := by first | (rw [hy423]; with_reducible exact H) | (have H2_ := (Option.bind_some _ _).symm.trans H; rw [hy423]; with_reducible exact H2_) | (have H2_ := (Option.bind_some _ _).symm.trans H; with_reducible exact H2_) | with_reducible exact H | (rw [hy423]; exact H) | exact H
        have Ny423 := za.mk hy423
        clear hy423
        have c27b0 := eq_true (of_decide_eq_true (by first | (with_reducible assumption) | assumption) : 0 ≤ x5_1)
        have c28b0 := eq_true (of_decide_eq_true (by first | (with_reducible assumption) | assumption) : x5_1 ≤ (l0.length : Int))
        obtain ⟨y426, hy426⟩ : ∃ y_ : List Int, y_ = (l0.drop (x5_1 : Int).toNat) := ⟨_, rfl⟩
        replace H : (if y423.length + y426.length < 17592186044416 then (some (y423 ++ y426)) else (none)) = some r := by first | (rw [hy426]; with_reducible exact H) | (have H2_ := (Option.bind_some _ _).symm.trans H; rw [hy426]; with_reducible exact H2_) | (have H2_ := (Option.bind_some _ _).symm.trans H; with_reducible exact H2_) | with_reducible exact H | (rw [hy426]; exact H) | exact H
        have Ny426 := za.mk hy426
        clear hy426
        by_cases c29 : y423.length + y426.length < 17592186044416
        ·rw [if_pos c29] at H
         have LMc29 := za.mk c29
         clear c29
         obtain ⟨y430, hy430⟩ : ∃ y_ : List Int, y_ = (y423 ++ y426) := ⟨_, rfl⟩
         replace H : (some y430) = some r := by first | (rw [hy430]; with_reducible exact H) | (have H2_ := (Option.bind_some _ _).symm.trans H; rw [hy430]; with_reducible exact H2_) | (have H2_ := (Option.bind_some _ _).symm.trans H; with_reducible exact H2_) | with_reducible exact H | (rw [hy430]; exact H) | exact H
         have Ny430 := za.mk hy430
         clear hy430
         obtain rfl := Option.some.inj H
         obtain ⟨Ao30, co30, eo30⟩ := Kd.qC HO_0.out
         subst eo30
         have q31 : (x5_1 : Int) ≤ ((l0.length : Int) : Int) := of_decide_eq_true (by first | (with_reducible assumption) | assumption)
         obtain ⟨i031, hi031, _, hsz31, _⟩ := info_parts info3
         have hroom31 : l0.length ≤ co30 := (Kd.zO HO_0.out).2.1
         have hC31 : Kd.C (Kd.int .i64) _ Ao30 l0.length l0 := (Kd.zO HO_0.out).2.2
         have hcut31 := cut_to (P := Try.prog) 22 3 .i64 Try.underlying22 hi031 Ao30 l0.length co30 x5_1 (of_decide_eq_true (by first | (with_reducible assumption) | assumption)) q31 hroom31
         have hr31 := Kd.C_take (m := (x5_1 : Int).toNat) hC31 (by omega)
         have hy31 : y416.length = (x5_1 : Int).toNat := (by rw [Ny416.out, List.length_take]; omega)
         rw [← Ny416.out] at hr31
         rw [← hy31] at hcut31
         have HR419 := za.mk hr31
         have HC419 := za.mk (show y416.length ≤ co30 from by omega)
         clear hr31 hC31 hroom31 hi031 hsz31
         have KY31 := za.mk hy31
         clear hy31
         have KL31 := za.mk (show (x5_1 : Int).toNat ≤ l0.length from by omega)
         replace q31 := eq_true q31
         try go_wp2_with (first | ((with_reducible refine Zb (b := .append) (xs := #[.const (.slice none 0 0), .tmp 36]) rfl ?_); at_builtin; refine Kd.R_append_rows (Kd.int .i64) (w0 := w0) w0.heap.size rfl (.const (.slice none 0 0)) (.tmp 36) 22 3 (.int .i64 0) 8 rfl Try.underlying22 info3 rfl (by decide) (by omega) (.slice none 0 0) ([] : List Int) y416 _ _ _ (fun k_ => (P0_ k_ ∨ w.heap.size ≤ k_) ∧ some k_ ≠ (.slice Ao30 l0.length co30 : Value).ownBlock) (fun _ => False) rfl rfl ?aO ?aR (fun _ _ h => h) (fun _ h => h.elim) ?aF ?aB ?aS ?aL ?_; (case aR => repeat (first | exact (by repeat (first | (with_reducible exact HR419.out) | (with_reducible refine Kd.qA ?_ _) | (with_reducible refine Kd.qz ?_ _) | (with_reducible refine Kd.qF ?_) | exact HR419.out)) | (with_reducible refine Kd.qA ?_ _) | (with_reducible refine Kd.qz ?_ _) | (with_reducible refine Kd.qF ?_))); (case aB => exact (by repeat (first | (with_reducible first | exact HB.out | apply zf | apply zb | apply zg) | exact HB.out))); (case aF => exact (fun k_ hk => ⟨(.inr (Nat.le_trans (by first | exact HK.out.1 | exact (show Kept w _ (fun k_ => P0_ k_) from by repeat (first | (with_reducible first | exact HK.out | apply Kept.alloc | apply Kept.drewN | apply Kept.drew) | exact HK.out)).1) hk)), Kd.fresh' (Kd.R_lt (by (with_reducible repeat (first | apply Kd.zn | apply Kd.zq | apply Kd.zu)); exact HO_0.out)) k_ hk⟩)); (case aO => exact ((Kd.ZO _ _ _ _ (fun k_ => (P0_ k_ ∨ w.heap.size ≤ k_) ∧ some k_ ≠ (.slice Ao30 l0.length co30 : Value).ownBlock)))); (case aS => exact (zB (by repeat (first | (with_reducible first | exact HB.out | apply zf | apply zb | apply zg) | exact HB.out)))); (case aL => have := LMc25.out; omega); intro v421 w32 ho hb hg hat; rw [← Ny420.out] at ho; have n0_ := za.mk (Kd.Zf (Kd.R_apart_nil (by (with_reducible repeat (first | apply Kd.zn | apply Kd.zq | apply Kd.zu)); exact HO_0.out)) hg hat); have n1_ := za.mk (hb); have n2_ := za.mk (Kept.Qf (S := (fun k_ => P0_ k_)) hg (by repeat (first | (with_reducible first | exact HK.out | apply Kept.alloc | apply Kept.drewN | apply Kept.drew) | exact HK.out)) (fun k_ e_ => by simp [Value.ownBlock] at e_)); have n3_ := za.mk ((show Kd.C (Kd.int .i64) w32 Ao30 y416.length y416 from by rw [Ny416.out]; exact Kd.C_take (m := (x5_1 : Int).toNat) ((Kd.zO (Kd.Zf (Kd.R_apart_nil (by (with_reducible repeat (first | apply Kd.zn | apply Kd.zq | apply Kd.zu)); exact HO_0.out)) hg hat)).2.2) KL31.out)); have n4_ := za.mk (ho); clear HO_0; clear HB; clear HK; clear HR419; have HO_0 := n0_; have HB := n1_; have HK := n2_; have HR419 := n3_; have HO422 := n4_; clear n0_ n1_ n2_ n3_ n4_; clear ho hb hg hat))
         have n0_ := za.mk (Kd.zu HO_0.out)
         have n1_ := za.mk (Kd.zu HO422.out)
         have n2_ := za.mk (Kd.qF HR419.out)
         have n3_ := za.mk (Kept.drew HK.out)
         have n4_ := za.mk (zg HB.out)
         clear HO_0
         clear HO422
         clear HR419
         clear HK
         clear HB
         have HO_0 := n0_
         have HO422 := n1_
         have HR419 := n2_
         have HK := n3_
         have HB := n4_
         clear n0_ n1_ n2_ n3_ n4_
         have q34 : (x5_1 : Int) ≤ ((l0.length : Int) : Int) := of_decide_eq_true (by first | (with_reducible assumption) | assumption)
         obtain ⟨i034, hi034, _, hsz34, _⟩ := info_parts info3
         have hroom34 : l0.length ≤ co30 := (Kd.zO HO_0.out).2.1
         have hC34 : Kd.C (Kd.int .i64) _ Ao30 l0.length l0 := (Kd.zO HO_0.out).2.2
         have q034 : (0 : Int) ≤ (x5_1 : Int) := of_decide_eq_true (by first | (with_reducible assumption) | assumption)
         have hcut34 := cut_from (P := Try.prog) 22 3 .i64 Try.underlying22 hi034 1 hsz34 Ao30 l0.length co30 x5_1 q034 q34
         have hr34 := Kd.C_drop (m := (x5_1 : Int).toNat) (c := co30) hC34 (by omega) hroom34
         obtain ⟨A34, hA34⟩ : ∃ A1, A1 = (if co30 = (x5_1 : Int).toNat then Ao30 else (Ao30 : Option Addr).map (·.add ((x5_1 : Int).toNat * 1))) := ⟨_, rfl⟩
         obtain ⟨c34, hc34⟩ : ∃ c1, c1 = co30 - (x5_1 : Int).toNat := ⟨_, rfl⟩
         have hy34 : y426.length = l0.length - (x5_1 : Int).toNat := (by rw [Ny426.out, List.length_drop] <;> omega)
         rw [show (l0).drop (x5_1 : Int).toNat = y426 from Ny426.out.symm] at hr34
         replace hr34 : Kd.C (Kd.int .i64) _ A34 y426.length y426 := (by rw [hA34]; exact hr34)
         rw [← hy34, ← hA34, ← hc34] at hcut34
         have HR429 := za.mk hr34
         have HC429 := za.mk (show y426.length ≤ c34 from by rw [hy34, hc34]; exact Nat.sub_le_sub_right hroom34 _)
         clear hr34 hC34 hroom34 hi034 hsz34 hc34
         have KY34 := za.mk hy34
         have KA34 := za.mk hA34
         clear hy34 hA34
         have KL34 := za.mk (show (x5_1 : Int).toNat ≤ l0.length from by omega)
         replace q34 := eq_true q34
         refine start_ (n := 9) (S := fun w' => True) (ds := []) #[false, false, false, false, false, false, false, false, false] (by kernel_rfl) rfl rfl trivial (fun hHeld => ?_); refine ZX zK.tab7 zK.bits7 (fun HT_ HW_ => ?_)
         generalize w32.drew = w33 at HO_0 HO422 HR419 HK HB HR429 hHeld ⊢
         refine qK (i := 0) (N := some 38) (v := ?_) (a' := ?_) #[true, false, false, false, false, false, false, false, false] rfl rfl (qy HT_.out (by kernel_rfl)) (fun _ _ _ h => h) (Or.inl ⟨by rfl, ?_⟩) ?_ ?_
         rotate_left
         ·intro w'
          go_simp
          with_reducible rfl
         rotate_left
         ·simp only [Act.put, List.setIfInBounds_toArray, List.set_cons_zero, List.set_cons_succ, qh, qj]
          rfl
         refine qK (i := 1) (N := some 39) (v := ?_) (a' := ?_) #[true, true, false, false, false, false, false, false, false] rfl rfl (qy HT_.out (by kernel_rfl)) (fun _ _ _ h => h) (Or.inl ⟨by rfl, ?_⟩) ?_ ?_
         rotate_left
         ·intro w'
          go_simp
          with_reducible rfl
         rotate_left
         ·simp only [Act.put, List.setIfInBounds_toArray, List.set_cons_zero, List.set_cons_succ, qh, qj]
          rfl
         refine qK (i := 4) (N := some 42) (v := ?_) (a' := ?_) #[true, true, false, false, true, false, false, false, false] rfl rfl (qy HT_.out (by kernel_rfl)) (fun _ _ _ h => h) (Or.inl ⟨by rfl, ?_⟩) ?_ ?_
         rotate_left
         ·intro w'
          go_simp
          with_reducible rfl
         rotate_left
         ·simp only [Act.put, List.setIfInBounds_toArray, List.set_cons_zero, List.set_cons_succ, qh, qj]
          rfl
         refine qK (i := 5) (N := some 43) (v := ?_) (a' := ?_) #[true, true, false, false, true, true, false, false, false] rfl rfl (qy HT_.out (by kernel_rfl)) (fun _ _ _ h => h) (Or.inl ⟨by rfl, ?_⟩) ?_ ?_
         rotate_left
         ·intro w'
          go_simp
          with_reducible rfl
         rotate_left
         ·simp only [Act.put, List.setIfInBounds_toArray, List.set_cons_zero, List.set_cons_succ, qh, qj]
          rfl
         refine qK (i := 6) (N := some 44) (v := ?_) (a' := ?_) #[true, true, false, false, true, true, true, false, false] rfl rfl (qy HT_.out (by kernel_rfl)) (fun _ _ _ h => h) (Or.inl ⟨by rfl, ?_⟩) ?_ ?_
         rotate_left
         ·intro w'
          go_simp
          with_reducible rfl
         rotate_left
         ·simp only [Act.put, List.setIfInBounds_toArray, List.set_cons_zero, List.set_cons_succ, qh, qj]
          rfl
         refine one_ (i := 2) (N := some 40) #[true, true, true, false, true, true, true, false, false] rfl rfl (Qh HT_.out (by kernel_rfl)) (by decide) (fun K hK => ?_)
         refine value_ (w1 := ?_) (v := ?_) (by rfl) rfl ?_ ?_
         rotate_left 2
         ·go_simp
          constructor
          ·rfl
          ·rfl
         refine hK.out _ _ trivial (fun hHeld => ?_)
         clear hK K
         refine norm_ (a' := ?_) ?_ ?_
         rotate_left
         ·show Act.put _ (some 40) _ = _
          simp only [Act.put, List.setIfInBounds_toArray, List.set_cons_zero, List.set_cons_succ, qh, qj]
          rfl
         refine one_ (i := 3) (N := some 41) #[true, true, true, true, true, true, true, false, false] rfl rfl (Qh HT_.out (by kernel_rfl)) (by decide) (fun K hK => ?_)
         refine Kd.R_append_step (Kd.int .i64) (w0 := w0) w0.heap.size (by rfl) (.tmp 38) (.tmp 40) 22 3 (.int .i64 0) 8 rfl Try.underlying22 info3 rfl (by decide) (by omega) v421 y420 a1 [.int .i64 a1] (fun k_ => (P0_ k_ ∨ w.heap.size ≤ k_) ∧ some k_ ≠ (.slice Ao30 l0.length co30 : Value).ownBlock) (fun _ => False) rfl rfl ?aP (fun _ hk => hk.elim) ?aF ?aO ?aB ?aS ?aL ?_
         (case aP => exact rfl)
         (case aB => exact (by repeat (first | (with_reducible first | exact HB.out | apply zf | apply zb | apply zg) | exact HB.out)))
         (case aF => exact (fun k_ hk => ⟨(.inr (Nat.le_trans (by first | exact HK.out.1 | exact (show Kept w _ (fun k_ => P0_ k_) from by repeat (first | (with_reducible first | exact HK.out | apply Kept.alloc | apply Kept.drewN | apply Kept.drew) | exact HK.out)).1) hk)), Kd.fresh' (Kd.R_lt (by (with_reducible repeat (first | apply Kd.zn | apply Kd.zq | apply Kd.zu)); exact HO_0.out)) k_ hk⟩))
         (case aO => exact (by (with_reducible repeat (first | apply Kd.zn | apply Kd.zq | apply Kd.zu)); exact HO422.out))
         (case aS => exact (zB (by repeat (first | (with_reducible first | exact HB.out | apply zf | apply zb | apply zg) | exact HB.out))))
         (case aL => have := LMc26.out; omega)
         intro v424 w35 ho hb hg hat
         rw [← Ny423.out] at ho
         have n0_ := za.mk (Kd.Zf (ok := (fun k_ => (P0_ k_ ∨ w.heap.size ≤ k_))) (by (with_reducible repeat (first | apply Kd.zn | apply Kd.zq | apply Kd.zu)); exact HO_0.out) hg hat)
         have n1_ := za.mk (hb)
         have n2_ := za.mk (Kept.Qf (S := (fun k_ => P0_ k_)) hg (by repeat (first | (with_reducible first | exact HK.out | apply Kept.alloc | apply Kept.drewN | apply Kept.drew) | exact HK.out)) (fun k_ e_ => (HO422.out.1 k_ e_).1))
         have n3_ := za.mk ((show Kd.C (Kd.int .i64) w35 Ao30 y416.length y416 from by rw [Ny416.out]; exact Kd.C_take (m := (x5_1 : Int).toNat) ((Kd.zO (Kd.Zf (ok := (fun k_ => (P0_ k_ ∨ w.heap.size ≤ k_))) (by (with_reducible repeat (first | apply Kd.zn | apply Kd.zq | apply Kd.zu)); exact HO_0.out) hg hat)).2.2) KL31.out))
         have n4_ := za.mk ((show Kd.C (Kd.int .i64) w35 A34 y426.length y426 from by rw [Ny426.out, KA34.out]; exact Kd.C_drop (m := (x5_1 : Int).toNat) (c := co30) ((Kd.zO (Kd.Zf (ok := (fun k_ => (P0_ k_ ∨ w.heap.size ≤ k_))) (by (with_reducible repeat (first | apply Kd.zn | apply Kd.zq | apply Kd.zu)); exact HO_0.out) hg hat)).2.2) KL34.out ((Kd.zO (Kd.Zf (ok := (fun k_ => (P0_ k_ ∨ w.heap.size ≤ k_))) (by (with_reducible repeat (first | apply Kd.zn | apply Kd.zq | apply Kd.zu)); exact HO_0.out) hg hat)).2.1)))
         have n5_ := za.mk (ho)
         clear HO_0
         clear HB
         clear HK
         clear HR419
         clear HR429
         clear HO422
         have HO_0 := n0_
         have HB := n1_
         have HK := n2_
         have HR419 := n3_
         have HR429 := n4_
         have HO425 := n5_
         clear n0_ n1_ n2_ n3_ n4_ n5_
         clear ho hb hg hat
         refine hK.out _ _ trivial (fun hHeld => ?_)
         clear hK K
         refine norm_ (a' := ?_) ?_ ?_
         rotate_left
         ·show Act.put _ (some 41) _ = _
          simp only [Act.put, List.setIfInBounds_toArray, List.set_cons_zero, List.set_cons_succ, qh, qj]
          rfl
         refine one_ (i := 7) (N := some 45) #[true, true, true, true, true, true, true, true, false] rfl rfl (Qh HT_.out (by kernel_rfl)) (by decide) (fun K hK => ?_)
         refine Kd.Qn (Kd.int .i64) (w0 := w0) w0.heap.size (by rfl) (.tmp 41) (.tmp 44) 22 3 (.int .i64 0) 8 rfl Try.underlying22 info3 rfl (by decide) (by omega) v424 y423 y426 _ _ _ (fun k_ => (P0_ k_ ∨ w.heap.size ≤ k_) ∧ some k_ ≠ (.slice Ao30 l0.length co30 : Value).ownBlock) (fun _ => False) rfl rfl ?aO ?aR (fun _ _ h => h) (fun _ h => h.elim) ?aF ?aB ?aS ?aL ?_
         (case aR => repeat (first | exact (by repeat (first | (with_reducible exact HR429.out) | (with_reducible refine Kd.qA ?_ _) | (with_reducible refine Kd.qz ?_ _) | (with_reducible refine Kd.qF ?_) | exact HR429.out)) | (with_reducible refine Kd.qA ?_ _) | (with_reducible refine Kd.qz ?_ _) | (with_reducible refine Kd.qF ?_)))
         (case aB => exact (by repeat (first | (with_reducible first | exact HB.out | apply zf | apply zb | apply zg) | exact HB.out)))
         (case aF => exact (fun k_ hk => ⟨(.inr (Nat.le_trans (by first | exact HK.out.1 | exact (show Kept w _ (fun k_ => P0_ k_) from by repeat (first | (with_reducible first | exact HK.out | apply Kept.alloc | apply Kept.drewN | apply Kept.drew) | exact HK.out)).1) hk)), Kd.fresh' (Kd.R_lt (by (with_reducible repeat (first | apply Kd.zn | apply Kd.zq | apply Kd.zu)); exact HO_0.out)) k_ hk⟩))
         (case aO => exact (by (with_reducible repeat (first | apply Kd.zn | apply Kd.zq | apply Kd.zu)); exact HO425.out))
         (case aS => exact (zB (by repeat (first | (with_reducible first | exact HB.out | apply zf | apply zb | apply zg) | exact HB.out))))
         (case aL => have := LMc29.out; omega)
         intro v431 w36 ho hb hg hat
         rw [← Ny430.out] at ho
         have n0_ := za.mk (Kd.Zf (ok := (fun k_ => (P0_ k_ ∨ w.heap.size ≤ k_))) (by (with_reducible repeat (first | apply Kd.zn | apply Kd.zq | apply Kd.zu)); exact HO_0.out) hg hat)
         have n1_ := za.mk (hb)
         have n2_ := za.mk (Kept.Qf (S := (fun k_ => P0_ k_)) hg (by repeat (first | (with_reducible first | exact HK.out | apply Kept.alloc | apply Kept.drewN | apply Kept.drew) | exact HK.out)) (fun k_ e_ => (HO425.out.1 k_ e_).1))
         have n3_ := za.mk ((show Kd.C (Kd.int .i64) w36 Ao30 y416.length y416 from by rw [Ny416.out]; exact Kd.C_take (m := (x5_1 : Int).toNat) ((Kd.zO (Kd.Zf (ok := (fun k_ => (P0_ k_ ∨ w.heap.size ≤ k_))) (by (with_reducible repeat (first | apply Kd.zn | apply Kd.zq | apply Kd.zu)); exact HO_0.out) hg hat)).2.2) KL31.out))
         have n4_ := za.mk ((show Kd.C (Kd.int .i64) w36 A34 y426.length y426 from by rw [Ny426.out, KA34.out]; exact Kd.C_drop (m := (x5_1 : Int).toNat) (c := co30) ((Kd.zO (Kd.Zf (ok := (fun k_ => (P0_ k_ ∨ w.heap.size ≤ k_))) (by (with_reducible repeat (first | apply Kd.zn | apply Kd.zq | apply Kd.zu)); exact HO_0.out) hg hat)).2.2) KL34.out ((Kd.zO (Kd.Zf (ok := (fun k_ => (P0_ k_ ∨ w.heap.size ≤ k_))) (by (with_reducible repeat (first | apply Kd.zn | apply Kd.zq | apply Kd.zu)); exact HO_0.out) hg hat)).2.1)))
         have n5_ := za.mk (ho)
         clear HO_0
         clear HB
         clear HK
         clear HR419
         clear HR429
         clear HO425
         have HO_0 := n0_
         have HB := n1_
         have HK := n2_
         have HR419 := n3_
         have HR429 := n4_
         have HO432 := n5_
         clear n0_ n1_ n2_ n3_ n4_ n5_
         clear ho hb hg hat
         refine hK.out _ _ trivial (fun hHeld => ?_)
         clear hK K
         refine norm_ (a' := ?_) ?_ ?_
         rotate_left
         ·show Act.put _ (some 45) _ = _
          simp only [Act.put, List.setIfInBounds_toArray, List.set_cons_zero, List.set_cons_succ, qh, qj]
          rfl
         refine qK (i := 8) (N := some 4) (v := ?_) (a' := ?_) #[true, true, true, true, true, true, true, true, true] rfl rfl (qy HT_.out (by kernel_rfl)) (fun _ _ _ h => h) (Or.inl ⟨by rfl, ?_⟩) ?_ ?_
         rotate_left
         ·intro w'
          go_simp
          with_reducible rfl
         rotate_left
         ·simp only [Act.put, List.setIfInBounds_toArray, List.set_cons_zero, List.set_cons_succ, qh, qj]
          rfl
         refine done_ (done_of HT_.out (by kernel_rfl)) ?_
         try go_wp2
         go_ret
         exact ⟨_, by first | rfl | (simp [zQ, zP] <;> rfl) | (simp [*, zQ, zP] <;> rfl), by (with_reducible repeat (first | apply Kd.zn | apply Kd.zq | apply Kd.zu)); exact Kd.zR HO432.out (fun _ hk => hk.1), by repeat (first | (with_reducible first | exact HB.out | apply zf | apply zb | apply zg) | exact HB.out), by repeat (first | (with_reducible first | exact HK.out | apply Kept.alloc | apply Kept.drewN | apply Kept.drew) | exact HK.out)⟩
        ·rw [if_neg c29] at H
         exact absurd H (by simp)
       ·rw [if_neg c26] at H
        exact absurd H (by simp)
      ·rw [if_neg c25] at H
       exact absurd H (by simp)
     ·rw [if_neg c24] at H
      exact absurd H (by simp)
    ·rw [if_neg c23] at H
     exact absurd H (by simp)
def zS.l0 : Nat → List Int → List Int → Int → Int → Option (List Int)
 | 0, _, _, _, _ => none
 | k + 1, x3, x6, x7, x8 => if x8 < x7 then (if 0 ≤ x8 then (if x8 < (x6.length : Int) then ((zK.f k x3 (rd x6 x8)).bind fun t434 => (zS.l0 k t434 x6 x7 (wrap64 (x8 + 1)))) else (none)) else (none)) else (some x3)
def zS.f (k : Nat) (l0 : List Int) : Option (List Int) := zS.l0 k ([] : List Int) l0 (l0.length : Int) 0
theorem zS.qV : ∀ k, (∀ y0 y1 y2 y3, LeO (zS.l0 k y0 y1 y2 y3) (zS.l0 (k + 1) y0 y1 y2 y3))
 | 0 => fun _ _ _ _ r h => by simp [zS.l0] at h
 | k + 1 => by
  have ih0 := zS.qV k
  ·intro y0 y1 y2 y3
   unfold zS.l0
   repeat' first
   | (with_reducible exact ih0 _ _ _ _)
   | (with_reducible exact zK.mono _ _ _)
   | (with_reducible exact LeO.refl _)
   | (with_reducible exact LeO.none _)
   | (with_reducible refine LeO.ite ?_ ?_)
   | (with_reducible refine LeO.bind ?_ (fun _ => ?_))
   | exact ih0 _ _ _ _
   | exact zK.mono _ _ _
   | exact LeO.none _
   | refine LeO.ite ?_ ?_
   | refine LeO.bind ?_ (fun _ => ?_)
theorem zS.mono : ∀ a0 k, LeO (zS.f k a0) (zS.f (k + 1) a0) := by
 intro a0 k
 have ih0 := zS.qV k
 unfold zS.f
 repeat' first
  | (with_reducible exact ih0 _ _ _ _)
  | (with_reducible exact zK.mono _ _ _)
  | (with_reducible exact LeO.refl _)
  | (with_reducible exact LeO.none _)
  | (with_reducible refine LeO.ite ?_ ?_)
  | (with_reducible refine LeO.bind ?_ (fun _ => ?_))
  | exact ih0 _ _ _ _
  | exact zK.mono _ _ _
  | exact LeO.none _
  | refine LeO.ite ?_ ?_
  | refine LeO.bind ?_ (fun _ => ?_)
set_option maxHeartbeats 8000000 in
set_option maxRecDepth 100000 in
theorem zS.calls (k : Nat) (A0 : Option Addr) (c0 : Nat) (l0 : List Int) (r : List Int) (w : World) (hr0 : Kd.C (Kd.int .i64) w A0 l0.length l0) (hc0 : l0.length ≤ c0) (h : zS.f k l0 = some r) :
  Calls Try.prog 40 #[.slice A0 l0.length c0] w fun e w' => ∃ v0_ : Value, e = .returned (v0_) ∧ Kd.R (Kd.int .i64) 3 w' w.heap.size (fun _ => True) v0_ r ∧ Below w.heap.size w w' := by
 have HR0 := za.mk hr0
 have HC0 := za.mk hc0
 clear hr0 hc0
 have HB := za.mk (Below.refl w.heap.size w)
 have H : (zS.l0 k ([] : List Int) l0 (l0.length : Int) 0) = some r := h
 clear h
 have H' := za.mk H
 clear H
 go_enter Try.func40, Try.ntmps40
 go_wp2
 go_loopg [3, 8] k (fun kq v3 v8 w' => ∃ (x3_1 : List Int) (x8_1 : Int), v8 = .int .i64 x8_1 ∧ za (zS.l0 kq x3_1 l0 (l0.length : Int) x8_1 = some r) ∧ za (kq ≤ k) ∧ za (Kd.R (Kd.int .i64) 3 w' w.heap.size (fun _ => True) v3 x3_1) ∧ za (Below w.heap.size w w'))
 case atStart => exact ⟨(([] : List Int)), (0), (by first | rfl | (simp; done) | (simp [*]; done)), H', ⟨Nat.le_refl _⟩, ⟨by first | exact Kd.ZO _ _ _ _ _ | exact Kd.N_nil _ _ _ _ _ | exact Kd.V_nil _ _ _ _ _ | exact Kd.Q_nil _ _ _ _ _ | exact Kd.S_nil _ _ _ _ _⟩, ⟨by repeat (first | (with_reducible first | exact HB.out | apply zf | apply zb | apply zg) | exact HB.out)⟩⟩
 case round =>
  clear H'
  obtain ⟨x3_1, x8_1, rfl, HA, HK1, HO_3, HB⟩ := hrel
  cases gk with
  | zero => exact absurd HA.out (by simp [zS.l0])
  | succ k1 =>
   have H := HA.out
   clear HA
   simp only [zS.l0] at H
   by_cases c2 : x8_1 < (l0.length : Int)
   ·rw [if_pos c2] at H
    have c2b0 : decide (x8_1 < (l0.length : Int)) = true := decide_eq_true c2
    clear c2
    by_cases c3 : 0 ≤ x8_1
    ·rw [if_pos c3] at H
     have c3b0 : decide (0 ≤ x8_1) = true := decide_eq_true c3
     clear c3
     by_cases c4 : x8_1 < (l0.length : Int)
     ·rw [if_pos c4] at H
      have c4b0 : decide (x8_1 < (l0.length : Int)) = true := decide_eq_true c4
      clear c4
      replace H := Option.bind_eq_some_iff.mp H
      obtain ⟨t434, A50, H⟩ := H
      replace H : (zS.l0 k1 t434 l0 (l0.length : Int) (wrap64 (x8_1 + 1))) = some r := H
      have A5 := za.mk A50
      clear A50
      have H' := za.mk H
      clear H
      have p433 : 0 ≤ (x8_1 : Int) := of_decide_eq_true (by first | (with_reducible assumption) | assumption)
      have q433 : x8_1 < (l0.length : Int) := of_decide_eq_true (by first | (with_reducible assumption) | assumption)
      obtain ⟨ad433, e433, hx433_0⟩ := Kd.qX HR0.out x8_1 p433 q433
      cases e433
      replace hx433_0 := (HB.out.cell (World.block_lt_of_cell? w _ hx433_0)).trans hx433_0
      replace p433 := eq_true p433
      replace q433 := eq_true q433
      obtain ⟨Ao6, co6, eo6⟩ := Kd.qC HO_3.out
      subst eo6
      go_wp2_with (first | ((with_reducible refine qc (f := 67) rfl ?_); refine qU (some 14) rfl rfl Try.func67 (by kernel_rfl) rfl #[.slice Ao6 x3_1.length co6, .int .i64 (rd l0 x8_1)] rfl (by (try simp only [List.map_toArray, List.map_cons, List.map_nil]); first | done | rfl | (simp only [List.length_drop, List.length_take]; rfl)) ?_; (with_reducible refine (zK.calls k1 (fun k_ => some k_ = (.slice Ao6 x3_1.length co6 : Value).ownBlock) (.slice Ao6 x3_1.length co6) x3_1 (rd l0 x8_1) t434 w _ ?side1 ?side2 A5.out).mono ?_); (case side1 => repeat (first | (with_reducible first | exact HB.out | apply zf | apply zb | apply zg) | exact HB.out)); (case side2 => exact Kd.R_tight rfl HO_3.out); rintro e w7 ⟨v435, rfl, ho0, hb, hkp⟩; refine ⟨_, rfl, ?_⟩; have n0_ := za.mk (Kd.zR (ok' := fun k_ => True) ho0 (fun k_ hk_ => trivial)); have n1_ := za.mk (hb); clear HB; clear HO_3; have HO436 := n0_; have HB := n1_; clear n0_ n1_; (try clear hb); (try clear hkp); (try clear ho0)))
      go_roundg k1
      case measure => have := HK1.out; omega
      case rel => exact ⟨(t434), (wrap64 (x8_1 + 1)), (by first | rfl | (simp; done) | (simp [*]; done)), H', ⟨by have := HK1.out; omega⟩, ⟨by (with_reducible repeat (first | apply Kd.zn | apply Kd.zq | apply Kd.zu)); exact HO436.out⟩, ⟨by repeat (first | (with_reducible first | exact HB.out | apply zf | apply zb | apply zg) | exact HB.out)⟩⟩
     ·rw [if_neg c4] at H
      exact absurd H (by simp)
    ·rw [if_neg c3] at H
     exact absurd H (by simp)
   ·rw [if_neg c2] at H
    have c2b0 : decide (x8_1 < (l0.length : Int)) = false := decide_eq_false c2
    clear c2
    obtain rfl := Option.some.inj H
    go_wp2
    go_ret
    exact ⟨_, by first | rfl | (simp [zQ, zP] <;> rfl) | (simp [*, zQ, zP] <;> rfl), by (with_reducible repeat (first | apply Kd.zn | apply Kd.zq | apply Kd.zu)); exact HO_3.out, by repeat (first | (with_reducible first | exact HB.out | apply zf | apply zb | apply zg) | exact HB.out)⟩
end Go.Proofs.Ytebehdjjkpffjaa.QPlans
end
