/- Contracts and lemmas on which the theorem of YtebehdjjkpffjaaRPlansz rests; no condition of their own. -/
import Derived.Laws.CopyOwn
import Derived.Test.YtebehdjjkpffjaaRPlansc
section
namespace Go.Proofs.Ytebehdjjkpffjaa.QPlans
open Go.RowKit Go.Proofs.YtebehdjjkpffjaaW.PrintWords Go.Proofs.YtebehdjjkpffjaaW.PrintLast Go.Proofs.YtebehdjjkpffjaaW.PrintMore
theorem mul_one : ∀ c : Fin 1001, bits_Mul.f 1 (c.val : Int) = some (0, (c.val : Int)) := by decide +kernel
theorem info3sz : (Try.prog.info? 3).map (·.size) = some 1 := by kernel_rfl
theorem splice_rep (x : Value) (N m k : Nat) (z : Value) (h : m + k ≤ N) : splice (List.replicate m x ++ List.replicate (N - m) z) m (List.replicate k x) = List.replicate (m + k) x ++ List.replicate (N - (m + k)) z := by
 unfold splice
 have e1 : (List.replicate m x ++ List.replicate (N - m) z).take m = List.replicate m x := by simp
 have e2 : (List.replicate m x ++ List.replicate (N - m) z).drop (m + (List.replicate k x).length) = List.replicate (N - (m + k)) z := by
  rw [List.drop_append]
  simp [List.drop_replicate]
  omega
 rw [e1, e2, ← List.append_assoc, List.replicate_append_replicate]
theorem rep_at {k j : Nat} {x v : Value} (h : (List.replicate k x)[j]? = some v) : j < k ∧ v = x := by
 rw [List.getElem?_replicate] at h
 split at h
 ·exact ⟨by assumption, by injection h with h; exact h.symm⟩
 ·cases h
theorem copy_ex {w w0 : World} {ty : TypeId} {g off dLen dCap sLen sCap : Nat} {ad : Addr} {cur cs : List Value} {B : Nat} (hg : w.heap[g]? = some (.cells cur.toArray 3 (0, 0))) (hn : cs.length = Nat.min sLen dLen)
  (hsrc : ∀ j v, cs[j]? = some v → w.cell? (ad.add j) = some v) (hfit : off + cs.length ≤ cur.length) (h1 : ∀ v ∈ cs, v.oneCell' = true) (hb : Below B w0 w) (hBg : B ≤ g) :
  ∃ W2, (Builtin.copy_ #[22, 22] ty #[.slice (some ⟨g, off, none⟩) dLen dCap, .slice (some ad) sLen sCap]).run Try.prog w = .ok (.int .i64 cs.length) W2 ∧ W2.heap[g]? = some (.cells (splice cur off cs).toArray 3 (0, 0)) ∧ Below B w0 W2 := by
 have hrun := run_copy_row (P := Try.prog) w 22 22 ty 3 g off dLen dCap ad sLen sCap cur.toArray 3 cs Try.underlying22 info3sz hg hn hsrc (by simpa using hfit) h1
 exact ⟨_, hrun, by simpa [splice] using setRow_heap w g _ _ 3 _ hg, below_setRow hb hBg _⟩
set_option maxHeartbeats 1600000 in
set_option maxRecDepth 100000 in
theorem Repeat_c (n : Nat) (hn : n ≤ 1000) (x : Int) (b : Nat) (w : World) (hb : w.heap[b]? = some (.cells #[.int .i64 x] 3 (0, 0))) :
  Calls Try.prog 35 #[.slice (some ⟨b, 0, none⟩) 1 1, .int .i64 n] w fun e w' => ∃ v, e = .returned v ∧ RowI w' w.heap.size v (List.replicate n x) ∧ Below w.heap.size w w' := by
 have hm := mul_one ⟨n, by omega⟩
 simp only at hm
 have hmk := fun W => run_make_row' (P := Try.prog) 22 3 (.int .i64 0) 8 Try.underlying22 (by kernel_rfl) rfl .i64 .i64 n (by omega) (by omega) W
 have HBk := za.mk hb
 have HM := za.mk hm
 clear hb hm
 have hn0 : ¬ (n : Int) < 0 := by omega
 have hn1 : ¬ (n : Int) > 9223372036854775807 := by omega
 go_enter Try.func35, Try.ntmps35
 go_wp2_with fail
 refine (bits_Mul.calls 1 n 0 n _ HM.out).mono ?_
 rintro e w1 ⟨rfl, hd⟩
 have HB1 := za.mk hd.below
 have HX1 := za.mk ((HB1.out.block b (qg HBk.out)).trans HBk.out)
 clear hd
 have HG := za.mk (show (w1.alloc (.cells (madeCells #[Value.int .i64 0] n) 3)).heap[w1.heap.size]? = some (.cells (List.replicate 0 (Value.int .i64 x) ++ List.replicate (n - 0) (Value.int .i64 0)).toArray 3 (0, 0)) by
  rw [heap_alloc_new]
  congr 2
  apply Array.ext'
  apply List.ext_getElem
  ·simp [madeCells]
  ·intro i h1 h2
   simp [madeCells, Nat.mod_one])
 have HC := za.mk (show (w1.alloc (.cells (madeCells #[Value.int .i64 0] n) 3)).cell? ⟨b, 0, none⟩ = some (.int .i64 x) by
  rw [World.cell?_alloc_past _ _ _ (qg HX1.out)]
  exact ze HX1.out 0)
 have HB2 := za.mk (qO HB1.out (by have := HB1.out.size; omega) (.cells (madeCells #[Value.int .i64 0] n) 3))
 have HGe := za.mk HB1.out.size
 have e0 := splice_rep (.int .i64 x) n 0 (min 1 n) (.int .i64 0) (by omega)
 rw [Nat.zero_add] at e0
 have E0 := za.mk e0
 clear e0
 obtain ⟨W2, hcp, hg2, hb2⟩ := copy_ex (ty := 3) (off := 0) (dLen := n) (dCap := n) (sLen := 1) (sCap := 1) (ad := ⟨b, 0, none⟩) (cs := List.replicate (min 1 n) (.int .i64 x)) HG.out (by simp) (fun j v hj => (by obtain ⟨h1, rfl⟩ := rep_at hj; obtain rfl : j = 0 := (by omega); exact HC.out)) (by simp; omega) (by simp [Value.oneCell']) HB2.out HGe.out
 rw [E0.out] at hg2
 rw [List.length_replicate] at hcp
 have HG2 := za.mk hg2
 have HB3 := za.mk hb2
 clear hg2 hb2
 go_wp2_with fail
 go_loopg [8] n (fun gg s8 wr => ∃ m : Nat, m ≤ n ∧ n - m ≤ gg ∧ (n = 0 ∨ 1 ≤ m) ∧ s8 = .int .i64 m ∧ za (wr.heap[w1.heap.size]? = some (.cells (List.replicate m (Value.int .i64 x) ++ List.replicate (n - m) (Value.int .i64 0)).toArray 3 (0, 0))) ∧ za (Below w.heap.size w wr))
 case atStart => exact ⟨min 1 n, by omega, by omega, by omega, rfl, HG2, HB3⟩
 case round =>
  clear HG2 HB3
  obtain ⟨m, hm, hgm, hm1, rfl, HG2, HB3⟩ := hrel
  by_cases hmn : m < n
  ·have hmb : (m : Int) < (n : Int) := by omega
   obtain ⟨kk, hkk, hkk1, hkk2⟩ : ∃ kk, kk = min m (n - m) ∧ 1 ≤ kk ∧ m + kk ≤ n := ⟨_, rfl, by omega, by omega⟩
   have e0 := splice_rep (.int .i64 x) n m kk (.int .i64 0) hkk2
   have E0 := za.mk e0
   clear e0
   obtain ⟨W3, hcp3, hg3, hb3⟩ := copy_ex (w := wr.drew) (w0 := w) (B := w.heap.size) (ty := 3) (g := w1.heap.size) (off := m) (dLen := n - m) (dCap := n - m) (sLen := m) (sCap := n) (ad := ⟨w1.heap.size, 0, none⟩) (cs := List.replicate kk (.int .i64 x)) HG2.out (by rw [List.length_replicate, hkk]) (fun j v hj => (by obtain ⟨h1, rfl⟩ := rep_at hj; rw [add_plain]; show wr.cell? _ = _; rw [ze HG2.out j]; simp; rw [List.getElem?_append_left (by simp; omega), List.getElem?_replicate, if_pos (by omega)])) (by simp; omega) (fun v hv => (by obtain ⟨_, rfl⟩ := List.mem_replicate.1 hv; rfl)) (zb HB3.out 1) HGe.out
   rw [E0.out] at hg3
   rw [List.length_replicate] at hcp3
   have HG3 := za.mk hg3
   have HB4 := za.mk hb3
   clear hg3 hb3 hkk
   go_wp2_with fail
   go_region_held3 (fun _ => True) (trivial) (fail)
   go_wp2_with fail
   go_roundg (n - (m + kk))
   case measure => omega
   case rel => exact ⟨m + kk, by omega, by omega, by omega, (by have e : IntKind.i64.wrap ((m : Int) + (kk : Int)) = ((m + kk : Nat) : Int) := (by rw [qh]; unfold wrap64; omega); rw [e]), HG3, HB4⟩
  ·have hme : m = n := by omega
   subst hme
   have hmb : ¬ (m : Int) < (m : Int) := by omega
   have HF := za.mk (show wr.heap[w1.heap.size]? = some (.cells (List.replicate m (Value.int .i64 x)).toArray 3 (0, 0)) by have := HG2.out; simpa using this)
   clear HG2
   go_wp2_with fail
   go_ret
   refine ⟨_, rfl, ?_, HB3.out⟩
   refine ⟨by simp [nums], .inr ⟨w1.heap.size, m, (List.replicate m (Value.int .i64 x)).toArray, by simp, HGe.out, HF.out, by simp, by unfold maxLen; omega, by simp, by simp [nums]⟩⟩
end Go.Proofs.Ytebehdjjkpffjaa.QPlans
end
section
namespace Go.Proofs.Ytebehdjjkpffjaa.QPlans
open Go.RowKit Go.Proofs.YtebehdjjkpffjaaW.PrintWords Go.Proofs.YtebehdjjkpffjaaW.PrintLast Go.Proofs.YtebehdjjkpffjaaW.PrintMore
abbrev RowE (w : World) (base : Nat) (v : Value) (l : List S66) : Prop := Kd.R k66 66 w base (fun _ => True) v l
theorem RowE_lit (W : World) (base : Nat) (hb : base ≤ W.heap.size) : RowE (W.alloc (.cells #[] 66)) base (.slice (some ⟨W.heap.size, 0, none⟩) 0 0) [] := by
 refine ⟨fun _ _ => trivial, [], ?_, ⟨by simp, fun j p hj => by simp at hj⟩⟩
 exact World.ownsRow_lit (base := base) (e := 66) (size := 2) W #[] 0 hb (by unfold maxLen; omega) (by simp)
set_option maxHeartbeats 400000 in
theorem CloneE (A : Option Addr) (c : Nat) (l : List S66) (w : World) (hr : Kd.C k66 w A l.length l) (hn : l.length * 16 ≤ 140737488355328) :
  Calls Try.prog 57 #[.slice A l.length c] w fun e w' => ∃ v, e = .returned v ∧ RowE w' w.heap.size v l ∧ Below w.heap.size w w' := by
 have heq := fun (w : World) (a : Option Addr) (n c : Nat) => Lib.run_eql_slice_nil (P := Try.prog) w 27 66 a n c 0 0 Try.underlying27
 cases A with
 | none =>
  have h0 : l.length = 0 := by
   rcases Nat.eq_zero_or_pos l.length with h | h
   ·exact h
   ·obtain ⟨ad, h, _⟩ := hr.2.2 h
    cases h
  obtain rfl : l = [] := List.eq_nil_of_length_eq_zero h0
  clear hr hn h0
  go_enter Try.func57, Try.ntmps57
  go_wp2
  go_ret
  exact ⟨_, rfl, Kd.ZO _ _ _ _ _, Below.refl _ _⟩
 | some ad =>
  have HR := za.mk hr
  have HN := za.mk hn
  clear hr hn
  go_enter Try.func57, Try.ntmps57
  have HO := za.mk (RowE_lit w w.heap.size (Nat.le_refl _))
  have HA := za.mk (Kd.qB HR.out (zf (Below.refl _ _) (.cells #[] 66)))
  clear HR
  go_wp2_with (first | ((with_reducible refine Zb (b := .append) (xs := #[.tmp 5, .tmp 6]) rfl ?_); at_builtin; refine Kd.R_append_rows k66 (w0 := w) w.heap.size rfl (.tmp 5) (.tmp 6) 27 66 (.agg #[(.int .i64 0), (.int .i64 0)]) 16 rfl Try.underlying27 info66 rfl (by decide) (by omega) (.slice (some ⟨w.heap.size, 0, none⟩) 0 0) [] l _ _ _ (fun _ => True) (fun _ => False) rfl rfl ?aO ?aR (fun _ _ h => h) (fun _ h => h.elim) ?aF ?aB ?aS ?aL ?_; (case aO => exact HO.out); (case aR => exact HA.out); (case aF => exact fun _ _ => trivial); (case aB => exact zf (Below.refl _ _) _); (case aS => simp); (case aL => have := HN.out; simp; omega); intro v1 w1 ho hb hg hat; have H1 := za.mk ho; have H2 := za.mk hb; clear ho hb hg hat))
  go_ret
  exact ⟨_, rfl, H1.out, H2.out⟩
theorem CloneNil2 (w : World) : Calls Try.prog 59 #[.slice none 0 0] w fun e w' => e = .returned (.slice none 0 0) ∧ w' = w := by
 have heq := fun (w : World) (a : Option Addr) (n c : Nat) => Lib.run_eql_slice_nil (P := Try.prog) w 34 22 a n c 0 0 Try.underlying34
 go_enter Try.func59, Try.ntmps59
 go_wp2
 go_ret
 exact ⟨rfl, rfl⟩
theorem CloneNil3 (w : World) : Calls Try.prog 60 #[.slice none 0 0] w fun e w' => e = .returned (.slice none 0 0) ∧ w' = w := by
 have heq := fun (w : World) (a : Option Addr) (n c : Nat) => Lib.run_eql_slice_nil (P := Try.prog) w 35 41 a n c 0 0 Try.underlying35
 go_enter Try.func60, Try.ntmps60
 go_wp2
 go_ret
 exact ⟨rfl, rfl⟩
end Go.Proofs.Ytebehdjjkpffjaa.QPlans
end
section
namespace Go.Proofs.Ytebehdjjkpffjaa.QPlans
open Go.RowKit Go.Proofs.YtebehdjjkpffjaaW.PrintWords Go.Proofs.YtebehdjjkpffjaaW.PrintLast Go.Proofs.YtebehdjjkpffjaaW.PrintMore
abbrev put7w (W : World) (g : Nat) (v0 v1 v2 v3 v4 v5 v6 : Value) : World :=
 ((((((W.setCell ⟨g, 0, none⟩ v0).setCell ⟨g, 1, none⟩ v1).setCell ⟨g, 2, none⟩ v2).setCell ⟨g, 3, none⟩ v3).setCell ⟨g, 4, none⟩ v4).setCell ⟨g, 5, none⟩ v5).setCell ⟨g, 6, none⟩ v6
theorem put7 {W : World} {g : Nat} {u0 u1 u2 u3 u4 u5 u6 : Value} (v0 v1 v2 v3 v4 v5 v6 : Value) (h : W.heap[g]? = some (.cells #[u0, u1, u2, u3, u4, u5, u6] 37 (0, 0))) :
  (put7w W g v0 v1 v2 v3 v4 v5 v6).heap[g]? = some (.cells #[v0, v1, v2, v3, v4, v5, v6] 37 (0, 0)) ∧
   (∀ {α : Type} (d : Kd α) (e base : Nat) (v : Value) (xs : List α), (∀ q, q ∈ e :: d.E → q ≠ 37) → d.R e W base (fun _ => True) v xs → d.R e (put7w W g v0 v1 v2 v3 v4 v5 v6) base (fun _ => True) v xs) ∧
   (∀ (B : Nat) (a : World), Below B a W → B ≤ g → Below B a (put7w W g v0 v1 v2 v3 v4 v5 v6)) := by
 have h0 := zX h 0 v0 (cs' := #[v0, u1, u2, u3, u4, u5, u6]) rfl
 have h1 := zX h0 1 v1 (cs' := #[v0, v1, u2, u3, u4, u5, u6]) rfl
 have h2 := zX h1 2 v2 (cs' := #[v0, v1, v2, u3, u4, u5, u6]) rfl
 have h3 := zX h2 3 v3 (cs' := #[v0, v1, v2, v3, u4, u5, u6]) rfl
 have h4 := zX h3 4 v4 (cs' := #[v0, v1, v2, v3, v4, u5, u6]) rfl
 have h5 := zX h4 5 v5 (cs' := #[v0, v1, v2, v3, v4, v5, u6]) rfl
 have h6 := zX h5 6 v6 (cs' := #[v0, v1, v2, v3, v4, v5, v6]) rfl
 refine ⟨h6, fun d e base v xs ht hr => ?_, fun B a hb hB => ?_⟩
 ·exact Kd.Zd (Kd.Zd (Kd.Zd (Kd.Zd (Kd.Zd (Kd.Zd (Kd.Zd hr h ht 0 v0) h0 ht 1 v1) h1 ht 2 v2) h2 ht 3 v3) h3 ht 4 v4) h4 ht 5 v5) h5 ht 6 v6
 ·exact ((((((hb.setCell (p := ⟨g, 0, none⟩) hB v0).setCell (p := ⟨g, 1, none⟩) hB v1).setCell (p := ⟨g, 2, none⟩) hB v2).setCell (p := ⟨g, 3, none⟩) hB v3).setCell (p := ⟨g, 4, none⟩) hB v4).setCell (p := ⟨g, 5, none⟩) hB v5).setCell (p := ⟨g, 6, none⟩) hB v6
set_option maxHeartbeats 1600000 in
set_option maxRecDepth 100000 in
theorem copied0_c (n : Int) (A : Option Addr) (c : Nat) (l : List S66) (wk : Int) (Ao : Option Addr) (co : Nat) (owner : List Int) (Ah : Option Addr) (ch : Nat) (heavy : List Int) (w : World)
  (hl : l.length ≤ 1000000) (hol : owner.length ≤ 1000000) (hhl : heavy.length ≤ 1000000)
  (hr : Kd.C k66 w A l.length l) (ho : Kd.C (Kd.int .i64) w Ao owner.length owner) (hh : Kd.C (Kd.int .i64) w Ah heavy.length heavy) :
  Calls Try.prog 34 #[.agg #[.int .i64 n, .slice A l.length c, .int .i64 wk, .slice Ao owner.length co, .slice Ah heavy.length ch, .slice none 0 0, .slice none 0 0]] w fun e w' =>
   ∃ v1 v3 v4, e = .returned (.agg #[.int .i64 n, v1, .int .i64 wk, v3, v4, .slice none 0 0, .slice none 0 0]) ∧ RowE w' w.heap.size v1 l ∧ RowI w' w.heap.size v3 owner ∧ RowI w' w.heap.size v4 heavy ∧
    (∀ k, v3.ownBlock = some k → v4.ownBlock ≠ some k) ∧ Below w.heap.size w w' := by
 have hc1 := za.mk (CloneE A c l)
 have hc2 := za.mk (fun w => CloneI Ao co owner w)
 have hc3 := za.mk (fun w => CloneI Ah ch heavy w)
 have HR := za.mk hr
 have HO := za.mk ho
 have HH := za.mk hh
 clear hr ho hh
 go_enter Try.func34, Try.ntmps34
 go_wp2_with fail
 have HX0 := za.mk (heap_alloc_new w (.cells #[.int .i64 n, .slice A l.length c, .int .i64 wk, .slice Ao owner.length co, .slice Ah heavy.length ch, .slice none 0 0, .slice none 0 0] 37))
 have HX2 := za.mk (zh HX0.out (.cells #[.int .i64 0, .slice none 0 0, .int .i64 0, .slice none 0 0, .slice none 0 0, .slice none 0 0, .slice none 0 0] 37))
 have HY2 := za.mk (heap_alloc_new (w.alloc (.cells #[.int .i64 n, .slice A l.length c, .int .i64 wk, .slice Ao owner.length co, .slice Ah heavy.length ch, .slice none 0 0, .slice none 0 0] 37)) (.cells #[.int .i64 0, .slice none 0 0, .int .i64 0, .slice none 0 0, .slice none 0 0, .slice none 0 0, .slice none 0 0] 37))
 have hsz : (w.alloc (.cells #[.int .i64 n, .slice A l.length c, .int .i64 wk, .slice Ao owner.length co, .slice Ah heavy.length ch, .slice none 0 0, .slice none 0 0] 37)).heap.size = w.heap.size + 1 := by simp
 rw [hsz] at HY2
 have HB2 := za.mk (zf (zf (Below.refl w.heap.size w) (.cells #[.int .i64 n, .slice A l.length c, .int .i64 wk, .slice Ao owner.length co, .slice Ah heavy.length ch, .slice none 0 0, .slice none 0 0] 37)) (.cells #[.int .i64 0, .slice none 0 0, .int .i64 0, .slice none 0 0, .slice none 0 0, .slice none 0 0, .slice none 0 0] 37))
 clear HX0 hsz
 generalize (w.alloc (.cells #[.int .i64 n, .slice A l.length c, .int .i64 wk, .slice Ao owner.length co, .slice Ah heavy.length ch, .slice none 0 0, .slice none 0 0] 37)).alloc (.cells #[.int .i64 0, .slice none 0 0, .int .i64 0, .slice none 0 0, .slice none 0 0, .slice none 0 0, .slice none 0 0] 37) = W2 at *
 have hW2 := HB2.out.size
 refine (hc1.out W2 (Kd.qB HR.out HB2.out) (by omega)).mono ?_
 rintro e w3 ⟨v1, rfl, h1, b3⟩
 obtain ⟨A1, c1, rfl⟩ := Kd.qC h1
 have HX3 := za.mk ((b3.block _ (qg HX2.out)).trans HX2.out)
 have HY3 := za.mk ((b3.block _ (qg HY2.out)).trans HY2.out)
 have HB3 := za.mk (HB2.out.trans (b3.mono hW2))
 have hd1 := ze HX3.out 1
 have hd2 := zl HX3.out 1
 have HX4 := za.mk (zX HX3.out 1 (.slice A1 l.length c1) (cs' := #[.int .i64 n, .slice A1 l.length c1, .int .i64 wk, .slice Ao owner.length co, .slice Ah heavy.length ch, .slice none 0 0, .slice none 0 0]) rfl)
 have HY4 := za.mk (ql HY3.out (p := ⟨w.heap.size, 1, none⟩) (by simp only; omega) (.slice A1 l.length c1))
 have HE4 := za.mk (Kd.qM (Kd.Zd h1 HX3.out (by decide) 1 (.slice A1 l.length c1)) hW2)
 have HB4 := za.mk (HB3.out.setCell (p := ⟨w.heap.size, 1, none⟩) (Nat.le_refl _) (.slice A1 l.length c1))
 clear h1 b3 HX2 HY2 HB2
 go_wp2_with fail
 clear hd1 hd2 HX3 HY3 HB3
 generalize w3.setCell ⟨w.heap.size, 1, none⟩ (.slice A1 l.length c1) = W4 at *
 have hq3 := ze HX4.out 3
 have hq4 := ze HX4.out 4
 have HS1 := za.mk (show (fun w' => w'.cell? ⟨w.heap.size, 3, none⟩ = some (.slice Ao owner.length co) ∧ w'.cell? ⟨w.heap.size, 4, none⟩ = some (.slice Ah heavy.length ch)) W4.drew from ⟨hq3, hq4⟩)
 refine ZC 10 (fun w' => w'.cell? ⟨w.heap.size, 3, none⟩ = some (.slice Ao owner.length co) ∧ w'.cell? ⟨w.heap.size, 4, none⟩ = some (.slice Ah heavy.length ch)) (fun _ => True) (by kernel_rfl) ?_
 replace HX4 := za.mk (show W4.drew.heap[w.heap.size]? = _ from HX4.out)
 replace HY4 := za.mk (show W4.drew.heap[w.heap.size + 1]? = _ from HY4.out)
 replace HE4 := za.mk (Kd.zu HE4.out)
 replace HB4 := za.mk (show Below w.heap.size w W4.drew from zb HB4.out 1)
 clear hq3 hq4
 generalize W4.drew = W5 at *
 clear W4
 have hW5 := HB4.out.size
 refine zN (fun _ => True) (i := 0) (v := ?_) rfl (by kernel_rfl) (fun _ _ => trivial) (Or.inl fun _ _ => trivial) (by kernel_rfl) (by kernel_rfl) (by kernel_rfl) (fun _ _ _ h => h) (by kernel_rfl) (by kernel_rfl) (Or.inl ⟨by rfl, ?_⟩) HS1.out ?_
 rotate_left; (focus (intro w hSw; (try dsimp only at hSw); go_simp; try with_reducible rfl))
 try simp only [Act.put, List.setIfInBounds_toArray, List.set_cons_zero, List.set_cons_succ, List.getElem_toArray, List.getElem_cons_zero, List.getElem_cons_succ]
 refine zN (fun _ => True) (i := 1) (v := ?_) rfl (by kernel_rfl) (fun _ _ => trivial) (Or.inl fun _ _ => trivial) (by kernel_rfl) (by kernel_rfl) (by kernel_rfl) (fun _ _ _ h => h) (by kernel_rfl) (by kernel_rfl) (Or.inl ⟨by rfl, ?_⟩) HS1.out ?_
 rotate_left; (focus (intro w hSw; (try dsimp only at hSw); go_simp; try with_reducible rfl))
 try simp only [Act.put, List.setIfInBounds_toArray, List.set_cons_zero, List.set_cons_succ, List.getElem_toArray, List.getElem_cons_zero, List.getElem_cons_succ]
 refine zN _ (i := 2) (v := ?_) rfl (by kernel_rfl) (fun _ h => h) (Or.inr (by kernel_rfl)) (by kernel_rfl) (by kernel_rfl) (by kernel_rfl) (fun _ _ _ h => h) (by kernel_rfl) (by kernel_rfl) (Or.inl ⟨by rfl, ?_⟩) HS1.out ?_
 rotate_left; (focus (intro w hSw; (try dsimp only at hSw); go_simp; try with_reducible rfl))
 try simp only [Act.put, List.setIfInBounds_toArray, List.set_cons_zero, List.set_cons_succ, List.getElem_toArray, List.getElem_cons_zero, List.getElem_cons_succ]
 refine zN (fun _ => True) (i := 4) (v := ?_) rfl (by kernel_rfl) (fun _ _ => trivial) (Or.inl fun _ _ => trivial) (by kernel_rfl) (by kernel_rfl) (by kernel_rfl) (fun _ _ _ h => h) (by kernel_rfl) (by kernel_rfl) (Or.inl ⟨by rfl, ?_⟩) HS1.out ?_
 rotate_left; (focus (intro w hSw; (try dsimp only at hSw); go_simp; try with_reducible rfl))
 try simp only [Act.put, List.setIfInBounds_toArray, List.set_cons_zero, List.set_cons_succ, List.getElem_toArray, List.getElem_cons_zero, List.getElem_cons_succ]
 refine zN (fun _ => True) (i := 5) (v := ?_) rfl (by kernel_rfl) (fun _ _ => trivial) (Or.inl fun _ _ => trivial) (by kernel_rfl) (by kernel_rfl) (by kernel_rfl) (fun _ _ _ h => h) (by kernel_rfl) (by kernel_rfl) (Or.inl ⟨by rfl, ?_⟩) HS1.out ?_
 rotate_left; (focus (intro w hSw; (try dsimp only at hSw); go_simp; try with_reducible rfl))
 try simp only [Act.put, List.setIfInBounds_toArray, List.set_cons_zero, List.set_cons_succ, List.getElem_toArray, List.getElem_cons_zero, List.getElem_cons_succ]
 refine zN _ (i := 6) (v := ?_) rfl (by kernel_rfl) (fun _ h => h) (Or.inr (by kernel_rfl)) (by kernel_rfl) (by kernel_rfl) (by kernel_rfl) (fun _ _ _ h => h) (by kernel_rfl) (by kernel_rfl) (Or.inl ⟨by rfl, ?_⟩) HS1.out ?_
 rotate_left; (focus (intro w hSw; (try dsimp only at hSw); go_simp; try with_reducible rfl))
 try simp only [Act.put, List.setIfInBounds_toArray, List.set_cons_zero, List.set_cons_succ, List.getElem_toArray, List.getElem_cons_zero, List.getElem_cons_succ]
 refine qx (rs := [3]) (by kernel_rfl) (by simp) (by kernel_rfl) (by kernel_rfl) ?_
 refine List.forall_mem_cons.2 ⟨?_, by simp⟩
 refine wpOp_step rfl (fun K hK => ?_)
 replace hK := za.mk hK
 go_simp
 refine (hc2.out W5 (Kd.qB HO.out HB4.out) (by omega)).mono ?_
 rintro e w6 ⟨v3, rfl, h3, b3⟩
 obtain ⟨A3, c3, rfl⟩ := RowI.lenSlice h3
 have HX6 := za.mk ((b3.block _ (qg HX4.out)).trans HX4.out)
 have HY6 := za.mk ((b3.block _ (qg HY4.out)).trans HY4.out)
 have HE6 := za.mk (Kd.zL HE4.out b3)
 have HB6 := za.mk (HB4.out.trans (b3.mono hW5))
 have H36 := za.mk (h3.lower hW5)
 have hW6 := HB6.out.size
 have HS1 := za.mk (show (fun w' => w'.cell? ⟨w.heap.size, 3, none⟩ = some (.slice Ao owner.length co) ∧ w'.cell? ⟨w.heap.size, 4, none⟩ = some (.slice Ah heavy.length ch)) w6 from ⟨ze HX6.out 3, ze HX6.out 4⟩)
 have hlt3 : ∀ k, (Value.slice A3 owner.length c3).ownBlock = some k → k < w6.heap.size := own_lt h3
 clear h3 b3 HX4 HY4 HE4 HB4
 dsimp only
 refine hK.out _ _ ⟨HS1.out, ?_⟩
 clear hK K
 try simp only [Act.put, List.setIfInBounds_toArray, List.set_cons_zero, List.set_cons_succ, List.getElem_toArray, List.getElem_cons_zero, List.getElem_cons_succ]
 refine zN (fun _ => True) (i := 8) (v := ?_) rfl (by kernel_rfl) (fun _ _ => trivial) (Or.inl fun _ _ => trivial) (by kernel_rfl) (by kernel_rfl) (by kernel_rfl) (fun _ _ _ h => h) (by kernel_rfl) (by kernel_rfl) (Or.inl ⟨by rfl, ?_⟩) HS1.out ?_
 rotate_left; (focus (intro w hSw; (try dsimp only at hSw); go_simp; try with_reducible rfl))
 try simp only [Act.put, List.setIfInBounds_toArray, List.set_cons_zero, List.set_cons_succ, List.getElem_toArray, List.getElem_cons_zero, List.getElem_cons_succ]
 refine zN (fun _ => True) (i := 9) (v := ?_) rfl (by kernel_rfl) (fun _ _ => trivial) (Or.inl fun _ _ => trivial) (by kernel_rfl) (by kernel_rfl) (by kernel_rfl) (fun _ _ _ h => h) (by kernel_rfl) (by kernel_rfl) (Or.inl ⟨by rfl, ?_⟩) HS1.out ?_
 rotate_left; (focus (intro w hSw; (try dsimp only at hSw); go_simp; try with_reducible rfl))
 try simp only [Act.put, List.setIfInBounds_toArray, List.set_cons_zero, List.set_cons_succ, List.getElem_toArray, List.getElem_cons_zero, List.getElem_cons_succ]
 refine qx (rs := [7]) (by kernel_rfl) (by simp) (by kernel_rfl) (by kernel_rfl) ?_
 refine List.forall_mem_cons.2 ⟨?_, by simp⟩
 refine wpOp_step rfl (fun K hK => ?_)
 replace hK := za.mk hK
 go_simp
 refine (hc3.out w6 (Kd.qB HH.out HB6.out) (by omega)).mono ?_
 rintro e w7 ⟨v4, rfl, h4, b4⟩
 obtain ⟨A4, c4, rfl⟩ := RowI.lenSlice h4
 have HX7 := za.mk ((b4.block _ (qg HX6.out)).trans HX6.out)
 have HY7 := za.mk ((b4.block _ (qg HY6.out)).trans HY6.out)
 have HE7 := za.mk (Kd.zL HE6.out b4)
 have HB7 := za.mk (HB6.out.trans (b4.mono hW6))
 have H37 := za.mk (show RowI w7 w.heap.size _ owner from Qg H36.out b4)
 have H47 := za.mk (h4.lower hW6)
 have HAP := za.mk (show ∀ k, (Value.slice A3 owner.length c3).ownBlock = some k → (Value.slice A4 heavy.length c4).ownBlock ≠ some k from fun k hk e => by have := hlt3 k hk; have := Za h4 k e; omega)
 have HS1 := za.mk (show (fun w' => w'.cell? ⟨w.heap.size, 3, none⟩ = some (.slice Ao owner.length co) ∧ w'.cell? ⟨w.heap.size, 4, none⟩ = some (.slice Ah heavy.length ch)) w7 from ⟨ze HX7.out 3, ze HX7.out 4⟩)
 clear h4 b4 HX6 HY6 HE6 HB6 H36 hlt3
 dsimp only
 refine hK.out _ _ ⟨HS1.out, ?_⟩
 clear hK K
 try simp only [Act.put, List.setIfInBounds_toArray, List.set_cons_zero, List.set_cons_succ, List.getElem_toArray, List.getElem_cons_zero, List.getElem_cons_succ]
 have hd1 := ze HX7.out 3
 have hd2 := zl HX7.out 3
 have HX8 := za.mk (zX HX7.out 3 (.slice A3 owner.length c3) rfl)
 have HY8 := za.mk (ql HY7.out (p := ⟨w.heap.size, 3, none⟩) (by simp only; omega) (.slice A3 owner.length c3))
 have HE8 := za.mk (Kd.Zd HE7.out HX7.out (by decide) 3 (.slice A3 owner.length c3))
 have HB8 := za.mk (HB7.out.setCell (p := ⟨w.heap.size, 3, none⟩) (Nat.le_refl _) (.slice A3 owner.length c3))
 have H38 := za.mk (RowI.of_R (Kd.Zd H37.out.R HX7.out (by decide) 3 (.slice A3 owner.length c3)))
 have H48 := za.mk (RowI.of_R (Kd.Zd H47.out.R HX7.out (by decide) 3 (.slice A3 owner.length c3)))
 refine Zo (by kernel_rfl) (by kernel_rfl) ?_
 refine wpOp_step rfl (fun K hK => ?_)
 replace hK := za.mk hK
 go_simp
 refine hK.out _ _ ⟨trivial, ?_⟩
 clear hd1 hd2 HX7 HY7 HE7 HB7 H37 H47
 generalize w7.setCell ⟨w.heap.size, 3, none⟩ (.slice A3 owner.length c3) = W8 at *
 clear hK K
 try simp only [Act.put, List.setIfInBounds_toArray, List.set_cons_zero, List.set_cons_succ, List.getElem_toArray, List.getElem_cons_zero, List.getElem_cons_succ]
 refine wpAnyH_take (i := 11) (v := ?_) rfl (by kernel_rfl) (by kernel_rfl) (by kernel_rfl) (fun _ _ _ h => h) (Or.inl ⟨by rfl, ?_⟩) trivial ?_
 rotate_left; (focus (intro w hSw; (try dsimp only at hSw); go_simp; try with_reducible rfl))
 try simp only [Act.put, List.setIfInBounds_toArray, List.set_cons_zero, List.set_cons_succ, List.getElem_toArray, List.getElem_cons_zero, List.getElem_cons_succ]
 refine wpAnyH_take (i := 12) (v := ?_) rfl (by kernel_rfl) (by kernel_rfl) (by kernel_rfl) (fun _ _ _ h => h) (Or.inl ⟨by rfl, ?_⟩) trivial ?_
 rotate_left; (focus (intro w hSw; (try dsimp only at hSw); go_simp; try with_reducible rfl))
 try simp only [Act.put, List.setIfInBounds_toArray, List.set_cons_zero, List.set_cons_succ, List.getElem_toArray, List.getElem_cons_zero, List.getElem_cons_succ]
 have hd1 := ze HX8.out 4
 have hd2 := zl HX8.out 4
 have HX9 := za.mk (zX HX8.out 4 (.slice A4 heavy.length c4) rfl)
 have HY9 := za.mk (ql HY8.out (p := ⟨w.heap.size, 4, none⟩) (by simp only; omega) (.slice A4 heavy.length c4))
 have HE9 := za.mk (Kd.Zd HE8.out HX8.out (by decide) 4 (.slice A4 heavy.length c4))
 have HB9 := za.mk (HB8.out.setCell (p := ⟨w.heap.size, 4, none⟩) (Nat.le_refl _) (.slice A4 heavy.length c4))
 have H39 := za.mk (RowI.of_R (Kd.Zd H38.out.R HX8.out (by decide) 4 (.slice A4 heavy.length c4)))
 have H49 := za.mk (RowI.of_R (Kd.Zd H48.out.R HX8.out (by decide) 4 (.slice A4 heavy.length c4)))
 refine wpAnyH_all (rs := [13]) (by kernel_rfl) (by simp) (List.forall_mem_cons.2 ⟨?_, by simp⟩)
 refine wpOp_step rfl (fun K hK => ?_)
 replace hK := za.mk hK
 go_simp
 refine hK.out _ _ ⟨trivial, ?_⟩
 clear hd1 hd2 HX8 HY8 HE8 HB8 H38 H48
 generalize W8.setCell ⟨w.heap.size, 4, none⟩ (.slice A4 heavy.length c4) = W9 at *
 clear hK K
 try simp only [Act.put, List.setIfInBounds_toArray, List.set_cons_zero, List.set_cons_succ, List.getElem_toArray, List.getElem_cons_zero, List.getElem_cons_succ]
 refine wpAnyH_done (by kernel_rfl) ?_ _
 have hq5 := ze HX9.out 5
 have hq6 := ze HX9.out 6
 go_wp2_with fail
 have HS1 := za.mk (show (fun w' => w'.cell? ⟨w.heap.size, 5, none⟩ = some (.slice none 0 0) ∧ w'.cell? ⟨w.heap.size, 6, none⟩ = some (.slice none 0 0)) W9.drew from ⟨hq5, hq6⟩)
 refine ZC 7 (fun w' => w'.cell? ⟨w.heap.size, 5, none⟩ = some (.slice none 0 0) ∧ w'.cell? ⟨w.heap.size, 6, none⟩ = some (.slice none 0 0)) (fun _ => True) (by kernel_rfl) ?_
 replace HX9 := za.mk (show W9.drew.heap[w.heap.size]? = _ from HX9.out)
 replace HY9 := za.mk (show W9.drew.heap[w.heap.size + 1]? = _ from HY9.out)
 replace HE9 := za.mk (Kd.zu HE9.out)
 replace HB9 := za.mk (show Below w.heap.size w W9.drew from zb HB9.out 1)
 replace H39 := za.mk (show RowI W9.drew w.heap.size (.slice A3 owner.length c3) owner from H39.out)
 replace H49 := za.mk (show RowI W9.drew w.heap.size (.slice A4 heavy.length c4) heavy from H49.out)
 clear hq5 hq6
 generalize W9.drew = Wa at *
 clear W9
 refine zN (fun _ => True) (i := 0) (v := ?_) rfl (by kernel_rfl) (fun _ _ => trivial) (Or.inl fun _ _ => trivial) (by kernel_rfl) (by kernel_rfl) (by kernel_rfl) (fun _ _ _ h => h) (by kernel_rfl) (by kernel_rfl) (Or.inl ⟨by rfl, ?_⟩) HS1.out ?_
 rotate_left; (focus (intro w hSw; (try dsimp only at hSw); go_simp; try with_reducible rfl))
 try simp only [Act.put, List.setIfInBounds_toArray, List.set_cons_zero, List.set_cons_succ, List.getElem_toArray, List.getElem_cons_zero, List.getElem_cons_succ]
 refine zN _ (i := 1) (v := ?_) rfl (by kernel_rfl) (fun _ h => h) (Or.inr (by kernel_rfl)) (by kernel_rfl) (by kernel_rfl) (by kernel_rfl) (fun _ _ _ h => h) (by kernel_rfl) (by kernel_rfl) (Or.inl ⟨by rfl, ?_⟩) HS1.out ?_
 rotate_left; (focus (intro w hSw; (try dsimp only at hSw); go_simp; try with_reducible rfl))
 try simp only [Act.put, List.setIfInBounds_toArray, List.set_cons_zero, List.set_cons_succ, List.getElem_toArray, List.getElem_cons_zero, List.getElem_cons_succ]
 refine zN (fun _ => True) (i := 3) (v := ?_) rfl (by kernel_rfl) (fun _ _ => trivial) (Or.inl fun _ _ => trivial) (by kernel_rfl) (by kernel_rfl) (by kernel_rfl) (fun _ _ _ h => h) (by kernel_rfl) (by kernel_rfl) (Or.inl ⟨by rfl, ?_⟩) HS1.out ?_
 rotate_left; (focus (intro w hSw; (try dsimp only at hSw); go_simp; try with_reducible rfl))
 try simp only [Act.put, List.setIfInBounds_toArray, List.set_cons_zero, List.set_cons_succ, List.getElem_toArray, List.getElem_cons_zero, List.getElem_cons_succ]
 refine zN _ (i := 4) (v := ?_) rfl (by kernel_rfl) (fun _ h => h) (Or.inr (by kernel_rfl)) (by kernel_rfl) (by kernel_rfl) (by kernel_rfl) (fun _ _ _ h => h) (by kernel_rfl) (by kernel_rfl) (Or.inl ⟨by rfl, ?_⟩) HS1.out ?_
 rotate_left; (focus (intro w hSw; (try dsimp only at hSw); go_simp; try with_reducible rfl))
 try simp only [Act.put, List.setIfInBounds_toArray, List.set_cons_zero, List.set_cons_succ, List.getElem_toArray, List.getElem_cons_zero, List.getElem_cons_succ]
 refine qx (rs := [2]) (by kernel_rfl) (by simp) (by kernel_rfl) (by kernel_rfl) ?_
 refine List.forall_mem_cons.2 ⟨?_, by simp⟩
 refine wpOp_step rfl (fun K hK => ?_)
 replace hK := za.mk hK
 go_simp
 refine (CloneNil2 Wa).mono ?_
 rintro e w6 ⟨rfl, rfl⟩
 dsimp only
 refine hK.out _ _ ⟨HS1.out, ?_⟩
 clear hK K
 try simp only [Act.put, List.setIfInBounds_toArray, List.set_cons_zero, List.set_cons_succ, List.getElem_toArray, List.getElem_cons_zero, List.getElem_cons_succ]
 refine zN (fun _ => True) (i := 6) (v := ?_) rfl (by kernel_rfl) (fun _ _ => trivial) (Or.inl fun _ _ => trivial) (by kernel_rfl) (by kernel_rfl) (by kernel_rfl) (fun _ _ _ h => h) (by kernel_rfl) (by kernel_rfl) (Or.inl ⟨by rfl, ?_⟩) HS1.out ?_
 rotate_left; (focus (intro w hSw; (try dsimp only at hSw); go_simp; try with_reducible rfl))
 try simp only [Act.put, List.setIfInBounds_toArray, List.set_cons_zero, List.set_cons_succ, List.getElem_toArray, List.getElem_cons_zero, List.getElem_cons_succ]
 refine qx (rs := [5]) (by kernel_rfl) (by simp) (by kernel_rfl) (by kernel_rfl) ?_
 refine List.forall_mem_cons.2 ⟨?_, by simp⟩
 refine wpOp_step rfl (fun K hK => ?_)
 replace hK := za.mk hK
 go_simp
 refine (CloneNil3 w6).mono ?_
 rintro e w7 ⟨rfl, rfl⟩
 dsimp only
 refine hK.out _ _ ⟨HS1.out, ?_⟩
 clear hK K
 try simp only [Act.put, List.setIfInBounds_toArray, List.set_cons_zero, List.set_cons_succ, List.getElem_toArray, List.getElem_cons_zero, List.getElem_cons_succ]
 have hd1 := ze HX9.out 5
 have hd2 := zl HX9.out 5
 have HXb := za.mk (zX HX9.out 5 (.slice none 0 0) rfl)
 have HYb := za.mk (ql HY9.out (p := ⟨w.heap.size, 5, none⟩) (by simp only; omega) (.slice none 0 0))
 have HEb := za.mk (Kd.Zd HE9.out HX9.out (by decide) 5 (.slice none 0 0))
 have HBb := za.mk (HB9.out.setCell (p := ⟨w.heap.size, 5, none⟩) (Nat.le_refl _) (.slice none 0 0))
 have H3b := za.mk (RowI.of_R (Kd.Zd H39.out.R HX9.out (by decide) 5 (.slice none 0 0)))
 have H4b := za.mk (RowI.of_R (Kd.Zd H49.out.R HX9.out (by decide) 5 (.slice none 0 0)))
 refine Zo (by kernel_rfl) (by kernel_rfl) ?_
 refine wpOp_step rfl (fun K hK => ?_)
 replace hK := za.mk hK
 go_simp
 refine hK.out _ _ ⟨trivial, ?_⟩
 clear hd1 hd2 HX9 HY9 HE9 HB9 H39 H49
 generalize w7.setCell ⟨w.heap.size, 5, none⟩ (.slice none 0 0) = Wb at *
 clear hK K
 try simp only [Act.put, List.setIfInBounds_toArray, List.set_cons_zero, List.set_cons_succ, List.getElem_toArray, List.getElem_cons_zero, List.getElem_cons_succ]
 refine wpAnyH_take (i := 8) (v := ?_) rfl (by kernel_rfl) (by kernel_rfl) (by kernel_rfl) (fun _ _ _ h => h) (Or.inl ⟨by rfl, ?_⟩) trivial ?_
 rotate_left; (focus (intro w hSw; (try dsimp only at hSw); go_simp; try with_reducible rfl))
 try simp only [Act.put, List.setIfInBounds_toArray, List.set_cons_zero, List.set_cons_succ, List.getElem_toArray, List.getElem_cons_zero, List.getElem_cons_succ]
 have hd1 := ze HXb.out 6
 have hd2 := zl HXb.out 6
 have HXc := za.mk (zX HXb.out 6 (.slice none 0 0) rfl)
 have HYc := za.mk (ql HYb.out (p := ⟨w.heap.size, 6, none⟩) (by simp only; omega) (.slice none 0 0))
 have HEc := za.mk (Kd.Zd HEb.out HXb.out (by decide) 6 (.slice none 0 0))
 have HBc := za.mk (HBb.out.setCell (p := ⟨w.heap.size, 6, none⟩) (Nat.le_refl _) (.slice none 0 0))
 have H3c := za.mk (RowI.of_R (Kd.Zd H3b.out.R HXb.out (by decide) 6 (.slice none 0 0)))
 have H4c := za.mk (RowI.of_R (Kd.Zd H4b.out.R HXb.out (by decide) 6 (.slice none 0 0)))
 refine wpAnyH_all (rs := [9]) (by kernel_rfl) (by simp) (List.forall_mem_cons.2 ⟨?_, by simp⟩)
 refine wpOp_step rfl (fun K hK => ?_)
 replace hK := za.mk hK
 go_simp
 refine hK.out _ _ ⟨trivial, ?_⟩
 clear hd1 hd2 HXb HYb HEb HBb H3b H4b
 generalize Wb.setCell ⟨w.heap.size, 6, none⟩ (.slice none 0 0) = Wc at *
 clear hK K
 try simp only [Act.put, List.setIfInBounds_toArray, List.set_cons_zero, List.set_cons_succ, List.getElem_toArray, List.getElem_cons_zero, List.getElem_cons_succ]
 refine wpAnyH_done (by kernel_rfl) ?_ _
 have hx0 := ze HXc.out 0
 have hx1 := ze HXc.out 1
 have hx2 := ze HXc.out 2
 have hx3 := ze HXc.out 3
 have hx4 := ze HXc.out 4
 have hx5 := ze HXc.out 5
 have hx6 := ze HXc.out 6
 go_wp2_with fail
 go_loopg [38] 0 (fun gg s38 wr => s38 = .int .i64 0 ∧ wr = Wc)
 case atStart => exact ⟨rfl, rfl⟩
 case round =>
  obtain ⟨rfl, rfl⟩ := hrel
  go_wp2_with fail
  go_loopg [53] 0 (fun gg s53 wr' => s53 = .int .i64 0 ∧ wr' = wr)
  case atStart => exact ⟨rfl, rfl⟩
  case round =>
   obtain ⟨rfl, rfl⟩ := hrel
   have hy0 := ze HYc.out 0
   have hy1 := ze HYc.out 1
   have hy2 := ze HYc.out 2
   have hy3 := ze HYc.out 3
   have hy4 := ze HYc.out 4
   have hy5 := ze HYc.out 5
   have hy6 := ze HYc.out 6
   have hz := fun i => zl HYc.out i
   go_wp2_with fail
   obtain ⟨hp1, hp2, hp3⟩ := put7 (.int .i64 n) (.slice A1 l.length c1) (.int .i64 wk) (.slice A3 owner.length c3) (.slice A4 heavy.length c4) (.slice none 0 0) (.slice none 0 0) HYc.out
   refine bodyPost_ret (results_cell_row rfl _ _ (w.heap.size + 1) 37 _ (0, 0) _ rfl hp1 Try.underlying37 rfl (by kernel_rfl)) rfl ?_
   exact ⟨_, _, _, rfl, hp2 _ _ _ _ _ (by decide) HEc.out, RowI.of_R (hp2 _ _ _ _ _ (by decide) H3c.out.R), RowI.of_R (hp2 _ _ _ _ _ (by decide) H4c.out.R), HAP.out, hp3 _ _ HBc.out (by omega)⟩
end Go.Proofs.Ytebehdjjkpffjaa.QPlans
end
section
namespace Go.Proofs.Ytebehdjjkpffjaa.QPlans
open Go.RowKit Go.Proofs.YtebehdjjkpffjaaW.PrintWords Go.Proofs.YtebehdjjkpffjaaW.PrintLast Go.Proofs.YtebehdjjkpffjaaW.PrintMore
def Zr (n : Int) (l : List S66) (wk : Int) (owner heavy : List Int) : Int := if Zn n l = 0 then ZF wk owner heavy n else Zn n l
set_option maxHeartbeats 800000 in
theorem check_c (n : Int) (A : Option Addr) (c : Nat) (l : List S66) (wk : Int) (Ao : Option Addr) (co : Nat) (owner : List Int) (Ah : Option Addr) (ch : Nat) (heavy : List Int) (w : World)
  (hr : Kd.C k66 w A l.length l) (hc : l.length ≤ c) (ho : Kd.C (Kd.int .i64) w Ao owner.length owner) (hco : owner.length ≤ co) (hh : Kd.C (Kd.int .i64) w Ah heavy.length heavy) (hch : heavy.length ≤ ch) :
  Calls Try.prog 32 #[.agg #[.int .i64 n, .slice A l.length c], .agg #[.int .i64 wk, .slice Ao owner.length co, .slice Ah heavy.length ch]] w fun e w' => e = .returned (.int .i64 (Zr n l wk owner heavy)) ∧ Below w.heap.size w w' := by
 have H1 := za.mk (fun w h => graph_Check_c n A c l w h hc)
 have H2 := za.mk (fun w h1 h2 => partition_Check_c wk Ao co owner Ah ch heavy n w h1 hco h2 hch)
 have HR := za.mk hr
 have HO := za.mk ho
 have HH := za.mk hh
 clear hr ho hh
 have HS := za.mk (show Zr n l wk owner heavy = if Zn n l = 0 then ZF wk owner heavy n else Zn n l from rfl)
 generalize Zr n l wk owner heavy = r at *
 generalize Zn n l = ge at *
 generalize ZF wk owner heavy n = pe at *
 go_enter Try.func32, Try.ntmps32
 go_wp2_with fail
 have HB := za.mk (zf (zf (Below.refl w.heap.size w) (.cells #[.int .i64 n, .slice A l.length c] 29)) (.cells #[.int .i64 wk, .slice Ao owner.length co, .slice Ah heavy.length ch] 32))
 have HX := za.mk (zh (heap_alloc_new w (.cells #[.int .i64 n, .slice A l.length c] 29)) (.cells #[.int .i64 wk, .slice Ao owner.length co, .slice Ah heavy.length ch] 32))
 have HY := za.mk (heap_alloc_new (w.alloc (.cells #[.int .i64 n, .slice A l.length c] 29)) (.cells #[.int .i64 wk, .slice Ao owner.length co, .slice Ah heavy.length ch] 32))
 have hsz : (w.alloc (.cells #[.int .i64 n, .slice A l.length c] 29)).heap.size = w.heap.size + 1 := by simp
 rw [hsz] at HY
 generalize (w.alloc (.cells #[.int .i64 n, .slice A l.length c] 29)).alloc (.cells #[.int .i64 wk, .slice Ao owner.length co, .slice Ah heavy.length ch] 32) = W1 at *
 have hW1 := HB.out.size
 refine (H1.out W1 (Kd.qB HR.out HB.out)).mono ?_
 rintro e w2 ⟨rfl, hb⟩
 have HB2 := za.mk (HB.out.trans (hb.mono hW1))
 have HX2 := za.mk ((hb.block _ (qg HX.out)).trans HX.out)
 have HY2 := za.mk ((hb.block _ (qg HY.out)).trans HY.out)
 clear HX HY HB hb hsz
 have hx0 := ze HX2.out 0
 have hx1 := ze HX2.out 1
 have hy0 := ze HY2.out 0
 have hy1 := ze HY2.out 1
 have hy2 := ze HY2.out 2
 have hW2 := HB2.out.size
 by_cases hge : ge = 0
 ·subst hge
  have hs := HS.out
  rw [if_pos rfl] at hs
  subst hs
  go_wp2_with fail
  refine (H2.out w2 (Kd.qB HO.out HB2.out) (Kd.qB HH.out HB2.out)).mono ?_
  rintro e w3 ⟨rfl, hb⟩
  go_wp2_with fail
  go_ret
  exact ⟨rfl, HB2.out.trans (hb.mono hW2)⟩
 ·have hs := HS.out
  rw [if_neg hge] at hs
  subst hs
  have hgb : (r != 0) = true := by simp [hge]
  go_wp2_with fail
  go_ret
  exact ⟨rfl, HB2.out⟩
end Go.Proofs.Ytebehdjjkpffjaa.QPlans
end
section
namespace Go.Proofs.Ytebehdjjkpffjaa.QPlans
open Go.RowKit Go.Proofs.YtebehdjjkpffjaaW.PrintWords Go.Proofs.YtebehdjjkpffjaaW.PrintLast Go.Proofs.YtebehdjjkpffjaaW.PrintMore
theorem edgesErr_ok (n : Int) (hn : n ≤ 64) : ∀ (l : List S66) (p : Option S66), Zg n p l = 0 → (∀ q, p = some q → 0 ≤ q.f0 ∧ q.f0 < 64 ∧ 0 ≤ q.f1 ∧ q.f1 < 64) →
  (∀ e ∈ l, 0 ≤ e.f0 ∧ e.f0 < e.f1 ∧ e.f1 < n) ∧ (l.length : Int) + (match p with | none => 0 | some q => q.f0 * 64 + q.f1 + 1) ≤ 4096
 | [], p, _, hp => by
  refine ⟨fun e he => (by cases he), ?_⟩
  cases p with
  | none => simp
  | some q => have := hp q rfl; simp only [List.length_nil]; omega
 | e :: r, p, h, hp => by
  unfold Zg at h
  by_cases hb : ZP n e = true
  ·rw [if_pos hb] at h; cases h
  ·rw [if_neg hb] at h
   have hb' : 0 ≤ e.f0 ∧ e.f0 < e.f1 ∧ e.f1 < n := by
    unfold ZP at hb
    simp only [Bool.or_eq_true, decide_eq_true_eq, not_or] at hb
    omega
   have key : Zg n (some e) r = 0 ∧ (∀ q, p = some q → q.f0 < e.f0 ∨ q.f0 = e.f0 ∧ q.f1 < e.f1) := by
    cases p with
    | none =>
     rw [if_neg (by simp)] at h
     exact ⟨h, fun q hq => by cases hq⟩
    | some q =>
     by_cases ho : ordE q.f0 q.f1 e.f0 e.f1 ≥ 0
     ·rw [if_pos (by simpa using ho)] at h; cases h
     ·rw [if_neg (by simpa using ho)] at h
      rw [ordE_neg, Classical.not_not] at ho
      exact ⟨h, fun q' hq => by injection hq with hq; subst hq; exact ho⟩
   obtain ⟨h1, h2⟩ := edgesErr_ok n hn r (some e) key.1 (fun q hq => by injection hq with hq; subst hq; omega)
   refine ⟨fun x hx => ?_, ?_⟩
   ·rcases List.mem_cons.1 hx with rfl | hx
    ·exact hb'
    ·exact h1 x hx
   ·simp only [List.length_cons] at h2 ⊢
    cases p with
    | none => simp only at h2 ⊢; omega
    | some q =>
     have := key.2 q rfl
     have := hp q rfl
     simp only at h2 ⊢
     omega
theorem graphErr_ok {n : Int} {l : List S66} (h : Zn n l = 0) : 0 ≤ n ∧ n ≤ 64 ∧ (∀ e ∈ l, 0 ≤ e.f0 ∧ e.f0 < e.f1 ∧ e.f1 < n) ∧ l.length ≤ 4096 := by
 unfold Zn at h
 split at h
 ·cases h
 ·rename_i hn
  obtain ⟨h1, h2⟩ := edgesErr_ok n (by omega) l none h (fun q hq => by cases hq)
  simp only at h2
  exact ⟨by omega, by omega, h1, by omega⟩
theorem planErr_ok {wk : Int} {owner heavy : List Int} {n : Int} (h : ZF wk owner heavy n = 0) : 1 ≤ wk ∧ wk ≤ 8 ∧ (owner.length : Int) = n ∧ (∀ x ∈ owner, 0 ≤ x ∧ x < wk) ∧ setOk heavy n = true := by
 unfold ZF at h
 split at h
 ·cases h
 ·rename_i h1
  split at h
  ·cases h
  ·rename_i h2
   split at h
   ·cases h
   ·rename_i h3
    unfold workersOk at h1
    simp only [decide_eq_false_iff_not, Classical.not_not] at h1
    simp only [Bool.not_eq_false, Bool.and_eq_true, decide_eq_true_eq] at h2
    refine ⟨h1.1, h1.2, h2.1, fun x hx => ?_, h2.2⟩
    simp only [List.any_eq_true, not_exists, not_and] at h3
    have := h3 x hx
    unfold Qd at this
    simp only [Bool.or_eq_true, decide_eq_true_eq, not_or] at this
    omega
theorem nbrs_nodes (N : Nat) : ∀ (l : List S66), EdgesIn N l → ∀ i, ∀ x ∈ (nbrs N l).getD i [], 0 ≤ x ∧ x < N := by
 intro l he
 unfold nbrs
 suffices ∀ (l : List S66) (xss : List (List Int)), EdgesIn N l → (∀ i, ∀ x ∈ xss.getD i [], 0 ≤ x ∧ x < N) → ∀ i, ∀ x ∈ (l.foldl ZK xss).getD i [], 0 ≤ x ∧ x < N by
  refine this l _ he (fun i x hx => ?_)
  simp only [List.getD_eq_getElem?_getD, List.getElem?_replicate] at hx
  split at hx <;> simp at hx
 intro l
 induction l with
 | nil => intro xss _ h; exact h
 | cons e r ih =>
  intro xss he h
  rw [List.foldl_cons]
  refine ih _ (fun x hx => he x (List.mem_cons_of_mem _ hx)) (fun i x hx => ?_)
  have hh := he e List.mem_cons_self
  unfold ZK at hx
  simp only [List.getD_eq_getElem?_getD, List.getElem?_set, List.length_set] at hx
  have h1 := h e.f0.toNat x
  have h2 := h e.f1.toNat x
  have h3 := h i x
  simp only [List.getD_eq_getElem?_getD] at h1 h2 h3
  split at hx
  ·split at hx
   ·simp only [Option.getD_some, List.mem_append, List.mem_singleton] at hx
    rcases hx with hx | rfl
    ·exact h2 hx
    ·omega
   ·simp at hx
  ·split at hx
   ·split at hx
    ·simp only [Option.getD_some, List.mem_append, List.mem_singleton] at hx
     rcases hx with hx | rfl
     ·exact h1 hx
     ·omega
    ·simp at hx
   ·exact h3 hx
theorem nbrs_shape {N : Nat} {l : List S66} {owner : List Int} (hN : N ≤ 64) (hl : l.length ≤ 4096) (he : EdgesIn N l) (ho : owner.length = N) : Shape (nbrs N l) owner N := by
 refine ⟨nbrs_length N l, ho, by omega, fun r hr => ?_, fun r hr x hx => ?_⟩
 ·obtain ⟨i, hi, rfl⟩ := List.mem_iff_getElem.1 hr
  have := nbrs_len N l i
  rw [List.getD_eq_getElem?_getD, List.getElem?_eq_getElem hi, Option.getD_some] at this
  omega
 ·obtain ⟨i, hi, rfl⟩ := List.mem_iff_getElem.1 hr
  have := nbrs_nodes N l he i x
  rw [List.getD_eq_getElem?_getD, List.getElem?_eq_getElem hi, Option.getD_some] at this
  exact this hx
theorem nbrs_rows {N : Nat} {l : List S66} (hl : l.length ≤ 4096) : ∀ r ∈ nbrs N l, r.length ≤ 10000 := by
 intro r hr
 obtain ⟨i, hi, rfl⟩ := List.mem_iff_getElem.1 hr
 have := nbrs_len N l i
 rw [List.getD_eq_getElem?_getD, List.getElem?_eq_getElem hi, Option.getD_some] at this
 omega
def k0At (near : List (List Int)) (owner : List Int) (N : Nat) (i : Int) (j : Nat) : List Int := (List.range N).map fun v => if v < j ∧ rd owner v = i then ((near.getD v []).length : Int) else N
def kOf (near : List (List Int)) (owner : List Int) (N : Nat) (i : Int) : List Int := settled near owner i (k0At near owner N i N)
def bOf (near : List (List Int)) (owner : List Int) (N W : Nat) (i : Int) : List (List S56) := told near owner i (kOf near owner N i) (fun _ => true) N (List.replicate W [])
theorem k0At_length (near : List (List Int)) (owner : List Int) (N : Nat) (i : Int) (j : Nat) : (k0At near owner N i j).length = N := by simp [k0At]
theorem k0At_zero (near : List (List Int)) (owner : List Int) (N : Nat) (i : Int) : k0At near owner N i 0 = List.replicate N (N : Int) := by
 apply List.ext_getElem
 ·simp [k0At]
 ·intro k h1 h2; simp [k0At]
theorem k0At_set (near : List (List Int)) (owner : List Int) (N : Nat) (i : Int) (j : Nat) (hj : j < N) (h : rd owner j = i) : (k0At near owner N i j).set j ((near.getD j []).length : Int) = k0At near owner N i (j + 1) := by
 apply List.ext_getElem
 ·simp [k0At]
 ·intro k h1 h2
  simp only [k0At, List.getElem_set, List.getElem_map, List.getElem_range]
  by_cases hk : j = k
  ·subst hk; simp [h]
  ·rw [if_neg hk]
   by_cases hlt : k < j
   ·simp [hlt, Nat.lt_succ_of_lt hlt]
   ·have : ¬ k < j + 1 := by omega
    simp [hlt, this]
theorem k0At_skip (near : List (List Int)) (owner : List Int) (N : Nat) (i : Int) (j : Nat) (h : rd owner j ≠ i) : k0At near owner N i (j + 1) = k0At near owner N i j := by
 unfold k0At
 apply List.map_congr_left
 intro v _
 by_cases hv : v = j
 ·subst hv; simp [h]
 ·have : (v < j + 1) ↔ (v < j) := by omega
  simp only [this]
end Go.Proofs.Ytebehdjjkpffjaa.QPlans
end
section
namespace Go.Proofs.Ytebehdjjkpffjaa.QPlans
open Go.RowKit Go.Proofs.YtebehdjjkpffjaaW.PrintWords Go.Proofs.YtebehdjjkpffjaaW.PrintLast Go.Proofs.YtebehdjjkpffjaaW.PrintMore
abbrev kL : Kd (List Int) := Kd.slice 3 (Kd.int .i64)
abbrev kM : Kd (List S56) := Kd.slice 56 k56
abbrev kB : Kd (List (List S56)) := Kd.slice 42 kM
theorem F_of_R {α : Type} {d : Kd α} {e : Nat} {W : World} {base : Nat} {ok : Nat → Prop} {A : Option Addr} {n c : Nat} {xs : List α} (h : d.R e W base ok (.slice A n c) xs) : Kd.F d W ok A xs.length xs := by
 intro W' hW
 exact (Kd.zO (Kd.R_step h hW)).2.2
theorem F_of_CI {W : World} {A : Option Addr} {l : List Int} (h : Kd.C (Kd.int .i64) W A l.length l) : Kd.F (Kd.int .i64) W (fun k => k < W.heap.size) A l.length l := by
 intro W' hW
 refine ⟨h.1, h.2.1, fun hn => ?_⟩
 obtain ⟨ad, e, hc⟩ := h.2.2 hn
 refine ⟨ad, e, fun j p hj => ?_⟩
 obtain ⟨c, hl, hK, hcell⟩ := hc j p hj
 refine ⟨c, hl, hK, fun i u hu => ?_⟩
 have h1 := hcell i u hu
 have h2 := World.block_lt_of_cell? W _ h1
 have h3 := hW _ h2 h2
 simpa [World.cell?, h3] using h1
theorem RowM_R {W : World} {base : Nat} {ok : Nat → Prop} {v : Value} {l : List S56} (h : RowM W base v l) (hok : ∀ k, v.ownBlock = some k → ok k) : k56.R 56 W base ok v l := by
 refine ⟨hok, cellsM l, h, by rw [cellsM_length]; rfl, fun j p hj => ?_⟩
 have e : ∀ (l : List S56) (j : Nat) (p : S56), l[j]? = some p → ((cellsM l).drop (j * 3)).take 3 = [.int .i64 p.f0, .int .i64 p.f1, .bool p.f2] := by
  intro l
  induction l with
  | nil => intro j p h; simp at h
  | cons x r ih =>
   intro j p h
   have hx : cellsM (x :: r) = [.int .i64 x.f0, .int .i64 x.f1, .bool x.f2] ++ cellsM r := rfl
   rw [hx]
   cases j with
   | zero => simp at h; subst h; simp
   | succ j =>
    rw [show (j + 1) * 3 = 3 + j * 3 by omega, ← List.drop_drop]
    simpa using ih j p (by simpa using h)
 show k56.M W base _ p (((cellsM l).drop (j * 3)).take 3)
 rw [e l j p hj]
 exact k56_mkM _ _ _ _
theorem O2_R {β : Type} {Row : World → Nat → Value → List β → Prop} {d : Kd β} {e1 e0 : Nat} {W : World} {base : Nat} {ok : Nat → Prop} {v : Value} {vs : List Value} {xss : List (List β)}
  (h : O2 Row [] e1 W base v vs vs xss) (hR : ∀ (ok : Nat → Prop) (v : Value) (l : List β), Row W base v l → (∀ k, v.ownBlock = some k → ok k) → d.R e0 W base ok v l)
  (ht : ∀ i, i < vs.length → ∀ k, (vs.getD i nilv).ownBlock = some k → some k ≠ v.ownBlock) (hok : ∀ k, v.ownBlock = some k → ok k) (hoki : ∀ i, i < vs.length → ∀ k, (vs.getD i nilv).ownBlock = some k → ok k) :
  (Kd.slice e0 d).R e1 W base ok v xss := by
 have hl := h.lx
 refine ⟨hok, vs, by rw [hl]; exact h.top, by rw [hl]; exact (Nat.mul_one _).symm, fun j p hj => ?_⟩
 have hj' : j < vs.length := by have := (List.getElem?_eq_some_iff.1 hj).1; omega
 have hr := h.row j hj'
 have e : xss.getD j [] = p := by rw [List.getD_eq_getElem?_getD, hj]; rfl
 rw [e] at hr
 refine ⟨vs.getD j nilv, ?_, hR _ _ _ hr (fun k hk => ⟨hoki j hj' k hk, ht j hj' k hk⟩)⟩
 show ((vs.drop (j * 1)).take 1) = _
 rw [Nat.mul_one, List.getD_eq_getElem?_getD, List.getElem?_eq_getElem hj']
 apply List.ext_getElem
 ·simp; omega
 ·intro i h1 h2
  have : i = 0 := by simp at h2; omega
  subst this
  simp
theorem OI_R {W : World} {base : Nat} {ok : Nat → Prop} {v : Value} {vs : List Value} {xss : List (List Int)} (h : OI W base v vs vs xss) (hok : ∀ k, base ≤ k → k < W.heap.size → ok k) : kL.R 22 W base ok v xss :=
 O2_R h (fun ok v l hr hk => Kd.R_of_own (enc := Value.int .i64) (h1 := fun _ => rfl) hr hk)
  (fun i hi k hk e => (Zx (h.row i hi) h.top (by decide)).elim (fun h => by rw [h] at hk; cases hk) (fun h => h (hk.trans e)))
  (fun k hk => hok k (Za h.top k hk) (own_lt h.top k hk)) (fun i hi k hk => hok k (Za (h.row i hi) k hk) (own_lt (h.row i hi) k hk))
theorem OM_R {W : World} {base : Nat} {ok : Nat → Prop} {v : Value} {vs : List Value} {xss : List (List S56)} (h : OM W base v vs vs xss) (hok : ∀ k, base ≤ k → k < W.heap.size → ok k) : kM.R 42 W base ok v xss :=
 O2_R h (fun ok v l hr hk => RowM_R hr hk)
  (fun i hi k hk e => (Zx (h.row i hi) h.top (by decide)).elim (fun h => by rw [h] at hk; cases hk) (fun h => h (hk.trans e)))
  (fun k hk => hok k (Za h.top k hk) (own_lt h.top k hk)) (fun i hi k hk => hok k (Za (h.row i hi) k hk) (own_lt (h.row i hi) k hk))
theorem stepR {α : Type} (d : Kd α) (t e e0 : Nat) (ht : Try.prog.underlying t = some (.slice e)) (hinfo : (Try.prog.info? e).map (fun i => (i.zero, i.size, i.bytes)) = some (some (.slice none 0 0), 1, 24))
  {ops : Array Oper} {o : Oper} {a : Act} {K : Act → World → Prop} {Q : Exit → Act → World → Prop} (W : World) (hw : Region.wanted o (yielded ops a.tmps) = true) (s x : Operand)
  (ho : o.op = .call { callee := .builtin .append, args := #[s, x], argTypes := #[t, t] }) (base : Nat) (v : Value) (xs : List (List α)) (hs : a.eval s = v) (hown : (Kd.slice e0 d).R e W base (fun _ => True) v xs) (b : Nat) (kv : Value) (y : List α)
  (hx : a.eval x = .slice (some ⟨b, 0, none⟩) 1 1) (hb : W.heap[b]? = some (.cells #[kv] e (0, 0))) (hk : d.R e0 W base (fun k => some k ≠ v.ownBlock) kv y) (hl : xs.length < 1000000) (hbase : base ≤ W.heap.size) (w0 : World) (hB : Below base w0 W)
  (h : ∀ v1 w1, (Kd.slice e0 d).R e w1 base (fun _ => True) v1 (xs ++ [y]) → Below base w0 w1 → W.grownBy w1 v.ownBlock → (v1.ownBlock = v.ownBlock ∨ ∃ b, v1.ownBlock = some b ∧ W.heap.size ≤ b) → K (a.put o.dst v1) w1) :
  if Region.wanted o (yielded ops a.tmps) = true then Oper.wp Try.prog o a W K Q else K (a.put o.dst undef) W := by
 refine Kd.Qn (Kd.slice e0 d) (Rr := fun p cs => p = y ∧ cs = [kv]) (w0 := w0) base hw s x t e (.slice none 0 0) 24 ho ht hinfo rfl (by show 0 < 1; omega) (by omega) v xs [y] (some ⟨b, 0, none⟩) 1 1 (fun _ => True) (fun k => some k ≠ v.ownBlock) hs hx hown ?_ ?_ (fun _ hk => ⟨trivial, hk⟩) (fun _ _ => trivial) hB hbase (by omega) h
 ·refine ⟨rfl, by omega, fun _ => ⟨_, rfl, fun j p hj => ⟨[kv], rfl, ?_, fun i u hu => ?_⟩⟩⟩
  ·rcases j with _ | j
   ·simp at hj; exact ⟨hj.symm, rfl⟩
   ·simp at hj
  ·rcases j with _ | j
   ·rcases i with _ | i
    ·simp at hu; subst hu
     rw [add_plain]
     exact ze hb 0
    ·simp at hu
   ·simp at hj
 ·rintro p cs ⟨rfl, rfl⟩
  exact ⟨kv, rfl, hk⟩
end Go.Proofs.Ytebehdjjkpffjaa.QPlans
end
section
namespace Go.Proofs.Ytebehdjjkpffjaa.QPlans
open Go.RowKit Go.Proofs.YtebehdjjkpffjaaW.PrintWords Go.Proofs.YtebehdjjkpffjaaW.PrintLast Go.Proofs.YtebehdjjkpffjaaW.PrintMore
theorem put4 {W : World} {g : Nat} {u0 u1 u2 u3 : Value} (v0 v1 v2 v3 : Value) (h : W.heap[g]? = some (.cells #[u0, u1, u2, u3] 75 (0, 0))) :
  ((((W.setCell ⟨g, 0, none⟩ v0).setCell ⟨g, 1, none⟩ v1).setCell ⟨g, 2, none⟩ v2).setCell ⟨g, 3, none⟩ v3).heap[g]? = some (.cells #[v0, v1, v2, v3] 75 (0, 0)) ∧
   (∀ {α : Type} (d : Kd α) (e base : Nat) (ok : Nat → Prop) (v : Value) (xs : List α), (∀ k, ok k → k ≠ g) → d.R e W base ok v xs → d.R e ((((W.setCell ⟨g, 0, none⟩ v0).setCell ⟨g, 1, none⟩ v1).setCell ⟨g, 2, none⟩ v2).setCell ⟨g, 3, none⟩ v3) base ok v xs) ∧
   (∀ (B : Nat) (a : World), Below B a W → B ≤ g → Below B a ((((W.setCell ⟨g, 0, none⟩ v0).setCell ⟨g, 1, none⟩ v1).setCell ⟨g, 2, none⟩ v2).setCell ⟨g, 3, none⟩ v3)) ∧ ((((W.setCell ⟨g, 0, none⟩ v0).setCell ⟨g, 1, none⟩ v1).setCell ⟨g, 2, none⟩ v2).setCell ⟨g, 3, none⟩ v3).heap.size = W.heap.size ∧ (∀ k, k ≠ g → ((((W.setCell ⟨g, 0, none⟩ v0).setCell ⟨g, 1, none⟩ v1).setCell ⟨g, 2, none⟩ v2).setCell ⟨g, 3, none⟩ v3).heap[k]? = W.heap[k]?) := by
 have h0 := zX h 0 v0 (cs' := #[v0, u1, u2, u3]) rfl
 have h1 := zX h0 1 v1 (cs' := #[v0, v1, u2, u3]) rfl
 have h2 := zX h1 2 v2 (cs' := #[v0, v1, v2, u3]) rfl
 have h3 := zX h2 3 v3 (cs' := #[v0, v1, v2, v3]) rfl
 refine ⟨h3, fun d e base ok v xs ht hr => ?_, fun B a hb hB => ?_, by simp [World.setCell], fun k hk => ?_⟩
 ·exact Kd.zz (p := ⟨g, 3, none⟩) (Kd.zz (p := ⟨g, 2, none⟩) (Kd.zz (p := ⟨g, 1, none⟩) (Kd.zz (p := ⟨g, 0, none⟩) hr ht v0) ht v1) ht v2) ht v3
 ·exact (((hb.setCell (p := ⟨g, 0, none⟩) hB v0).setCell (p := ⟨g, 1, none⟩) hB v1).setCell (p := ⟨g, 2, none⟩) hB v2).setCell (p := ⟨g, 3, none⟩) hB v3
 ·exact (Below.heap_setCell _ _ _ _ hk).trans ((Below.heap_setCell _ _ _ _ hk).trans ((Below.heap_setCell _ _ _ _ hk).trans (Below.heap_setCell _ _ _ _ hk)))
theorem put7g {W : World} {g : Nat} {u0 u1 u2 u3 u4 u5 u6 : Value} (v0 v1 v2 v3 v4 v5 v6 : Value) (h : W.heap[g]? = some (.cells #[u0, u1, u2, u3, u4, u5, u6] 37 (0, 0))) {α : Type} (d : Kd α) (e base : Nat) (ok : Nat → Prop) (v : Value) (xs : List α) (ht : ∀ q, q ∈ e :: d.E → q ≠ 37) (hr : d.R e W base ok v xs) : d.R e (put7w W g v0 v1 v2 v3 v4 v5 v6) base ok v xs := by
 have h0 := zX h 0 v0 (cs' := #[v0, u1, u2, u3, u4, u5, u6]) rfl
 have h1 := zX h0 1 v1 (cs' := #[v0, v1, u2, u3, u4, u5, u6]) rfl
 have h2 := zX h1 2 v2 (cs' := #[v0, v1, v2, u3, u4, u5, u6]) rfl
 have h3 := zX h2 3 v3 (cs' := #[v0, v1, v2, v3, u4, u5, u6]) rfl
 have h4 := zX h3 4 v4 (cs' := #[v0, v1, v2, v3, v4, u5, u6]) rfl
 have h5 := zX h4 5 v5 (cs' := #[v0, v1, v2, v3, v4, v5, u6]) rfl
 exact Kd.Zd (Kd.Zd (Kd.Zd (Kd.Zd (Kd.Zd (Kd.Zd (Kd.Zd hr h ht 0 v0) h0 ht 1 v1) h1 ht 2 v2) h2 ht 3 v3) h3 ht 4 v4) h4 ht 5 v5) h5 ht 6 v6
theorem ZG {α : Type} {d : Kd α} {e : Nat} {W W1 : World} {base : Nat} {ok : Nat → Prop} {v : Value} {xs : List α} (h : d.R e W base ok v xs) {b e' s' n' : Nat} {u : Value} {ys : List Value} (hk : W.ownsRow b e' s' u n' ys) (hne : ∀ q, q ∈ e :: d.E → q ≠ e') (hg : W.grownBy W1 u.ownBlock) : d.R e W1 base ok v xs := by
 refine Kd.zR (Kd.R_grown (ok := fun k => ok k ∧ some k ≠ u.ownBlock) (Kd.zR (Kd.Zm h) (fun k hk' => ⟨hk'.1, fun e2 => ?_⟩)) hg (fun k hk => hk.2)) (fun k hk => hk.1)
 obtain ⟨_, _, _, q, hq, cells, hc⟩ := hk'
 obtain ⟨cells', hc'⟩ := own_typed hk k e2.symm
 rw [hc] at hc'
 injection hc' with hc'
 injection hc' with _ hc'
 exact hne q hq hc'
theorem OM_made (W : World) (base n : Nat) (hb : base ≤ W.heap.size) (hn : n ≤ 9223372036854775807) : OM (W.alloc (.cells (madeCells #[.slice none 0 0] n) 42)) base (.slice (some ⟨W.heap.size, 0, none⟩) n n) (List.replicate n nilv) (List.replicate n nilv) (List.replicate n []) := by
 have h := World.ownsRow_lit (base := base) (e := 42) (size := 1) W (madeCells #[.slice none 0 0] n) n hb (by simpa [maxLen] using hn) (by simp [size_madeCells])
 have hl : (madeCells #[Value.slice none 0 0] n).toList = List.replicate n nilv := by
  apply List.ext_getElem
  ·simp [madeCells]
  ·intro i h1 h2
   simp [madeCells, nilv, Nat.mod_one]
 rw [hl] at h
 refine ⟨by simpa using h, by simp, by simp, fun i hi => ?_, fun i j hi hj _ => ?_⟩
 ·rw [List.length_replicate] at hi
  simp only [List.getD_eq_getElem?_getD, List.getElem?_replicate, if_pos hi, Option.getD_some]
  exact own_nil _ _ _ _
 ·rw [List.length_replicate] at hi
  left
  simp [List.getD_eq_getElem?_getD, List.getElem?_replicate, hi, nilv, Value.ownBlock]
theorem info42 : (Try.prog.info? 42).map (fun i => (i.zero, i.size, i.bytes)) = some (some (.slice none 0 0), 1, 24) := by kernel_rfl
theorem info41 : (Try.prog.info? 41).map (fun i => (i.zero, i.size, i.bytes)) = some (some (.slice none 0 0), 1, 24) := by kernel_rfl
theorem start1_c (v : Int) (w : World) : Calls Try.prog 38 (#[.int .i64 v] ++ #[]) w fun e w' => e = .returned (.bool true) ∧ Below w.heap.size w w' := by
 go_enter Try.func38, Try.ntmps38
 go_wp2
 go_ret
 exact ⟨rfl, Below.refl _ _⟩
set_option maxHeartbeats 3200000 in
set_option maxRecDepth 100000 in
theorem Start_c (n : Int) (A : Option Addr) (c : Nat) (l : List S66) (wk : Int) (Ao : Option Addr) (co : Nat) (owner : List Int) (Ah : Option Addr) (ch : Nat) (heavy : List Int) (w : World)
  (hr : Kd.C k66 w A l.length l) (hc : l.length ≤ c) (ho : Kd.C (Kd.int .i64) w Ao owner.length owner) (hco : owner.length ≤ co) (hh : Kd.C (Kd.int .i64) w Ah heavy.length heavy) (hch : heavy.length ≤ ch) (hhl : heavy.length ≤ 1000000) (h0 : Zr n l wk owner heavy = 0) :
  Calls Try.prog 13 #[.agg #[.int .i64 n, .slice A l.length c], .agg #[.int .i64 wk, .slice Ao owner.length co, .slice Ah heavy.length ch]] w fun e w' =>
   ∃ v1 v3 v4 vk vb, e = .returned (.tuple #[.agg #[.int .i64 n, v1, .int .i64 wk, v3, v4, vk, vb], .int .i64 0]) ∧ RowE w' w.heap.size v1 l ∧ RowI w' w.heap.size v3 owner ∧ RowI w' w.heap.size v4 heavy ∧ (∀ k, v3.ownBlock = some k → v4.ownBlock ≠ some k) ∧
    kL.R 22 w' w.heap.size (fun k => some k ≠ v3.ownBlock ∧ some k ≠ v4.ownBlock) vk ((List.range wk.toNat).map fun (i : Nat) => kOf (nbrs n.toNat l) owner n.toNat (i : Int)) ∧
    kB.R 41 w' w.heap.size (fun _ => True) vb ((List.range wk.toNat).map fun (i : Nat) => bOf (nbrs n.toNat l) owner n.toNat wk.toNat (i : Int)) ∧ Below w.heap.size w w' := by
 have hg0 : Zn n l = 0 := by
  by_cases h : Zn n l = 0
  ·exact h
  ·unfold Zr at h0; rw [if_neg h] at h0; exact absurd h0 h
 have hp0 : ZF wk owner heavy n = 0 := by unfold Zr at h0; rw [if_pos hg0] at h0; exact h0
 obtain ⟨hn0, hn1, hed, hll⟩ := graphErr_ok hg0
 obtain ⟨hw0, hw1, hol, how, _⟩ := planErr_ok hp0
 obtain ⟨N, rfl⟩ := Int.eq_ofNat_of_zero_le hn0
 obtain ⟨W, rfl⟩ := Int.eq_ofNat_of_zero_le (show 0 ≤ wk by omega)
 simp only [Int.toNat_natCast]
 have HSH := za.mk (nbrs_shape (N := N) (l := l) (owner := owner) (by omega) hll hed (by omega))
 have HNR := za.mk (nbrs_rows (N := N) (l := l) hll)
 have HCK := za.mk (fun w h1 h2 h3 => check_c N A c l W Ao co owner Ah ch heavy w h1 hc h2 hco h3 hch)
 have HNB := za.mk (fun w h1 => neighbours_c N A c l w (by omega) (by omega) hed h1)
 have HCP := za.mk (fun w h1 h2 h3 => copied0_c N A c l W Ao co owner Ah ch heavy w (by omega) (by omega) hhl h1 h2 h3)
 rw [h0] at HCK
 have hmk := fun W' => run_make_row' (P := Try.prog) 41 42 (.slice none 0 0) 24 Try.underlying41 info42 rfl .i64 .i64 W (by omega) (by omega) W'
 have HR := za.mk hr
 have HO := za.mk ho
 have HH := za.mk hh
 have HOW := za.mk how
 have HOL := za.mk (show owner.length = N by omega)
 have hN : N ≤ 64 := by omega
 have hWW : W ≤ 8 := by omega
 have hW1 : 1 ≤ W := by omega
 clear hr ho hh hed how hg0 hp0 h0 hn0 hn1 hw0 hw1 hll hol hc hco hch hhl
 generalize hnear : nbrs N l = near at *
 clear hnear
 go_enter Try.func13, Try.ntmps13
 go_wp2_with fail
 have HA := za.mk (zh (zh (heap_alloc_new w (.cells #[.int .i64 (N : Int), .slice A l.length c] 29)) (.cells #[.int .i64 (W : Int), .slice Ao owner.length co, .slice Ah heavy.length ch] 32)) (.cells #[.int .i64 0, .slice none 0 0, .int .i64 0, .slice none 0 0, .slice none 0 0, .slice none 0 0, .slice none 0 0] 37))
 have HP := za.mk (zh (heap_alloc_new (w.alloc (.cells #[.int .i64 (N : Int), .slice A l.length c] 29)) (.cells #[.int .i64 (W : Int), .slice Ao owner.length co, .slice Ah heavy.length ch] 32)) (.cells #[.int .i64 0, .slice none 0 0, .int .i64 0, .slice none 0 0, .slice none 0 0, .slice none 0 0, .slice none 0 0] 37))
 have HZ := za.mk (heap_alloc_new ((w.alloc (.cells #[.int .i64 (N : Int), .slice A l.length c] 29)).alloc (.cells #[.int .i64 (W : Int), .slice Ao owner.length co, .slice Ah heavy.length ch] 32)) (.cells #[.int .i64 0, .slice none 0 0, .int .i64 0, .slice none 0 0, .slice none 0 0, .slice none 0 0, .slice none 0 0] 37))
 have HB := za.mk (zf (zf (zf (Below.refl w.heap.size w) (.cells #[.int .i64 (N : Int), .slice A l.length c] 29)) (.cells #[.int .i64 (W : Int), .slice Ao owner.length co, .slice Ah heavy.length ch] 32)) (.cells #[.int .i64 0, .slice none 0 0, .int .i64 0, .slice none 0 0, .slice none 0 0, .slice none 0 0, .slice none 0 0] 37))
 rw [show (w.alloc (.cells #[.int .i64 (N : Int), .slice A l.length c] 29)).heap.size = w.heap.size + 1 by simp] at HP
 rw [show ((w.alloc (.cells #[.int .i64 (N : Int), .slice A l.length c] 29)).alloc (.cells #[.int .i64 (W : Int), .slice Ao owner.length co, .slice Ah heavy.length ch] 32)).heap.size = w.heap.size + 2 by simp] at HZ
 generalize ((w.alloc (.cells #[.int .i64 (N : Int), .slice A l.length c] 29)).alloc (.cells #[.int .i64 (W : Int), .slice Ao owner.length co, .slice Ah heavy.length ch] 32)).alloc (.cells #[.int .i64 0, .slice none 0 0, .int .i64 0, .slice none 0 0, .slice none 0 0, .slice none 0 0, .slice none 0 0] 37) = W0 at *
 have hs0 := qg HZ.out
 refine (HCK.out W0 (Kd.qB HR.out HB.out) (Kd.qB HO.out HB.out) (Kd.qB HH.out HB.out)).mono ?_
 rintro e w1 ⟨rfl, hb⟩
 have HA1 := za.mk ((hb.block _ (by omega)).trans HA.out)
 have HP1 := za.mk ((hb.block _ (by omega)).trans HP.out)
 have HZ1 := za.mk ((hb.block _ (by omega)).trans HZ.out)
 have HB1 := za.mk (HB.out.trans (hb.mono (by omega)))
 clear hb HA HP HZ HB hs0
 go_wp2_with fail
 have hs1 := qg HZ1.out
 have HS := za.mk (show (fun w' => (w'.cell? ⟨w.heap.size, 0, none⟩ = some (.int .i64 (N : Int)) ∧ w'.cell? ⟨w.heap.size, 1, none⟩ = some (.slice A l.length c)) ∧ w'.cell? ⟨w.heap.size + 1, 0, none⟩ = some (.int .i64 (W : Int)) ∧ w'.cell? ⟨w.heap.size + 1, 1, none⟩ = some (.slice Ao owner.length co) ∧ w'.cell? ⟨w.heap.size + 1, 2, none⟩ = some (.slice Ah heavy.length ch)) w1.drew from ⟨⟨ze HA1.out 0, ze HA1.out 1⟩, ze HP1.out 0, ze HP1.out 1, ze HP1.out 2⟩)
 refine ZC 5 (fun w' => (w'.cell? ⟨w.heap.size, 0, none⟩ = some (.int .i64 (N : Int)) ∧ w'.cell? ⟨w.heap.size, 1, none⟩ = some (.slice A l.length c)) ∧ w'.cell? ⟨w.heap.size + 1, 0, none⟩ = some (.int .i64 (W : Int)) ∧ w'.cell? ⟨w.heap.size + 1, 1, none⟩ = some (.slice Ao owner.length co) ∧ w'.cell? ⟨w.heap.size + 1, 2, none⟩ = some (.slice Ah heavy.length ch)) (fun _ => True) (by kernel_rfl) ?_
 replace HA1 := za.mk (show w1.drew.heap[w.heap.size]? = _ from HA1.out)
 replace HP1 := za.mk (show w1.drew.heap[w.heap.size + 1]? = _ from HP1.out)
 replace HZ1 := za.mk (show w1.drew.heap[w.heap.size + 2]? = _ from HZ1.out)
 replace HB1 := za.mk (show Below w.heap.size w w1.drew from zb HB1.out 1)
 replace hs1 : w.heap.size + 2 < w1.drew.heap.size := hs1
 generalize w1.drew = W1 at *
 clear w1
 refine zN _ (i := 0) (v := ?_) rfl (by kernel_rfl) (fun _ h => h) (Or.inr (by kernel_rfl)) (by kernel_rfl) (by kernel_rfl) (by kernel_rfl) (fun _ _ _ h => h) (by kernel_rfl) (by kernel_rfl) (Or.inl ⟨by rfl, ?_⟩) HS.out ?_
 rotate_left; (focus (intro w hSw; (try dsimp only at hSw); go_simp; try with_reducible rfl))
 try simp only [Act.put, List.setIfInBounds_toArray, List.set_cons_zero, List.set_cons_succ, List.getElem_toArray, List.getElem_cons_zero, List.getElem_cons_succ]
 refine zN _ (i := 1) (v := ?_) rfl (by kernel_rfl) (fun _ h => h) (Or.inr (by kernel_rfl)) (by kernel_rfl) (by kernel_rfl) (by kernel_rfl) (fun _ _ _ h => h) (by kernel_rfl) (by kernel_rfl) (Or.inl ⟨by rfl, ?_⟩) HS.out ?_
 rotate_left; (focus (intro w hSw; (try dsimp only at hSw); go_simp; try with_reducible rfl))
 try simp only [Act.put, List.setIfInBounds_toArray, List.set_cons_zero, List.set_cons_succ, List.getElem_toArray, List.getElem_cons_zero, List.getElem_cons_succ]
 refine qx (rs := [2, 4]) (by kernel_rfl) (by simp) (by kernel_rfl) (by kernel_rfl) ?_
 refine List.forall_mem_cons.2 ⟨?_, List.forall_mem_cons.2 ⟨?_, by simp⟩⟩
 ·have HBq := HB1
  have HAq := HA1
  have HPq := HP1
  have HZq := HZ1
  refine wpOp_step rfl (fun K hK => ?_)
  replace hK := za.mk hK
  go_simp
  refine (HNB.out W1 (Kd.qB HR.out HBq.out)).mono ?_
  rintro e w2 ⟨vn, vs, rfl, hn, hb⟩
  have HN2 := za.mk (OI_R (ok := fun k => W1.heap.size ≤ k) hn (fun k hk _ => hk))
  have HA2 := za.mk ((hb.block _ (by omega)).trans HAq.out)
  have HP2 := za.mk ((hb.block _ (by omega)).trans HPq.out)
  have HZ2 := za.mk ((hb.block _ (by omega)).trans HZq.out)
  have HB2 := za.mk (HBq.out.trans (hb.mono (by omega)))
  have hs2 := hb.size
  have HS := za.mk (show (fun w' => (w'.cell? ⟨w.heap.size, 0, none⟩ = some (.int .i64 (N : Int)) ∧ w'.cell? ⟨w.heap.size, 1, none⟩ = some (.slice A l.length c)) ∧ w'.cell? ⟨w.heap.size + 1, 0, none⟩ = some (.int .i64 (W : Int)) ∧ w'.cell? ⟨w.heap.size + 1, 1, none⟩ = some (.slice Ao owner.length co) ∧ w'.cell? ⟨w.heap.size + 1, 2, none⟩ = some (.slice Ah heavy.length ch)) w2 from ⟨⟨ze HA2.out 0, ze HA2.out 1⟩, ze HP2.out 0, ze HP2.out 1, ze HP2.out 2⟩)
  dsimp only
  obtain ⟨An, cn, e⟩ := Kd.qC HN2.out
  subst e
  refine hK.out _ _ ⟨HS.out, ?_⟩
  clear hK K
  try simp only [Act.put, List.setIfInBounds_toArray, List.set_cons_zero, List.set_cons_succ, List.getElem_toArray, List.getElem_cons_zero, List.getElem_cons_succ]
  refine zN (fun _ => True) (i := 3) (v := ?_) rfl (by kernel_rfl) (fun _ _ => trivial) (Or.inl fun _ _ => trivial) (by kernel_rfl) (by kernel_rfl) (by kernel_rfl) (fun _ _ _ h => h) (by kernel_rfl) (by kernel_rfl) (Or.inl ⟨by rfl, ?_⟩) HS.out ?_
  rotate_left; (focus (intro w hSw; (try dsimp only at hSw); go_simp; try with_reducible rfl))
  try simp only [Act.put, List.setIfInBounds_toArray, List.set_cons_zero, List.set_cons_succ, List.getElem_toArray, List.getElem_cons_zero, List.getElem_cons_succ]
  refine qx (rs := [4]) (by kernel_rfl) (by simp) (by kernel_rfl) (by kernel_rfl) ?_
  refine List.forall_mem_cons.2 ⟨?_, by simp⟩
  refine wpOp_step rfl (fun K hK => ?_)
  replace hK := za.mk hK
  go_simp
  have HX4 := za.mk (heap_alloc_new w2 (.cells #[.int .i64 0, .slice none 0 0, .slice none 0 0, .slice none 0 0] 75))
  have HN4 := za.mk (Kd.qM (base' := w.heap.size + 3) (Kd.zR (ok' := fun k => k ≠ w2.heap.size) (Kd.zn (Kd.Zm HN2.out) (.cells #[.int .i64 0, .slice none 0 0, .slice none 0 0, .slice none 0 0] 75)) (fun k hk => by have := hk.2.2.1; omega)) (by omega))
  have HB4 := za.mk (qO HB2.out (by omega) (.cells #[.int .i64 0, .slice none 0 0, .slice none 0 0, .slice none 0 0] 75))
  have HA4 := za.mk (zh HA2.out (.cells #[.int .i64 0, .slice none 0 0, .slice none 0 0, .slice none 0 0] 75))
  have HP4 := za.mk (zh HP2.out (.cells #[.int .i64 0, .slice none 0 0, .slice none 0 0, .slice none 0 0] 75))
  have HZ4 := za.mk (zh HZ2.out (.cells #[.int .i64 0, .slice none 0 0, .slice none 0 0, .slice none 0 0] 75))
  have HS := za.mk (show (fun w' => (w'.cell? ⟨w.heap.size, 0, none⟩ = some (.int .i64 (N : Int)) ∧ w'.cell? ⟨w.heap.size, 1, none⟩ = some (.slice A l.length c)) ∧ w'.cell? ⟨w.heap.size + 1, 0, none⟩ = some (.int .i64 (W : Int)) ∧ w'.cell? ⟨w.heap.size + 1, 1, none⟩ = some (.slice Ao owner.length co) ∧ w'.cell? ⟨w.heap.size + 1, 2, none⟩ = some (.slice Ah heavy.length ch)) (w2.alloc (.cells #[.int .i64 0, .slice none 0 0, .slice none 0 0, .slice none 0 0] 75)) from ⟨⟨ze HA4.out 0, ze HA4.out 1⟩, ze HP4.out 0, ze HP4.out 1, ze HP4.out 2⟩)
  have hq7 : w.heap.size + 2 < w2.heap.size := by omega
  have hs4 : (w2.alloc (.cells #[.int .i64 0, .slice none 0 0, .slice none 0 0, .slice none 0 0] 75)).heap.size = w2.heap.size + 1 := by simp
  refine hK.out _ _ ⟨HS.out, ?_⟩
  generalize w2.alloc (.cells #[.int .i64 0, .slice none 0 0, .slice none 0 0, .slice none 0 0] 75) = W4 at *
  generalize w2.heap.size = q7 at *
  clear hK K
  try simp only [Act.put, List.setIfInBounds_toArray, List.set_cons_zero, List.set_cons_succ, List.getElem_toArray, List.getElem_cons_zero, List.getElem_cons_succ]
  obtain ⟨hp1, hp2, hp3, hp4, hp5⟩ := put4 (.int .i64 (W : Int)) (.slice Ao owner.length co) (.slice Ah heavy.length ch) (.slice An near.length cn) HX4.out
  have HX7 := za.mk hp1
  have HN7 := za.mk (hp2 _ _ _ _ _ _ (fun k hk => hk) HN4.out)
  have HB7 := za.mk (hp3 _ _ HB4.out (by omega))
  have HA7 := za.mk ((hp5 _ (by omega)).trans HA4.out)
  have HP7 := za.mk ((hp5 _ (by omega)).trans HP4.out)
  have HZ7 := za.mk ((hp5 _ (by omega)).trans HZ4.out)
  have hd0 := ze HX4.out 0
  have hd1 := ze HX4.out 1
  have hd2 := ze HX4.out 2
  have hd3 := ze HX4.out 3
  have hdf := fun i => zl HX4.out i
  clear hp1 hp2 hp3 hp5
  refine Zo (by kernel_rfl) (by kernel_rfl) ?_
  refine wpOp_step rfl (fun K hK => ?_)
  replace hK := za.mk hK
  go_simp
  refine hK.out _ _ ⟨trivial, ?_⟩
  clear hK K
  try simp only [Act.put, List.setIfInBounds_toArray, List.set_cons_zero, List.set_cons_succ, List.getElem_toArray, List.getElem_cons_zero, List.getElem_cons_succ]
  refine wpAnyH_done (by kernel_rfl) ?_ _
  have hs7 := hp4
  clear hd0 hd1 hd2 hd3 hdf hp4 HX4 HN4 HB4 HA4 HP4 HZ4 HS
  generalize (((W4.setCell ⟨q7, 0, none⟩ (.int .i64 (W : Int))).setCell ⟨q7, 1, none⟩ (.slice Ao owner.length co)).setCell ⟨q7, 2, none⟩ (.slice Ah heavy.length ch)).setCell ⟨q7, 3, none⟩ (.slice An near.length cn) = W7 at *
  have ha0 := ze HA7.out 0
  have ha1 := ze HA7.out 1
  have hb0 := ze HP7.out 0
  have hb1 := ze HP7.out 1
  have hb2 := ze HP7.out 2
  go_wp2_with fail
  refine (HCP.out W7 (Kd.qB HR.out HB7.out) (Kd.qB HO.out HB7.out) (Kd.qB HH.out HB7.out)).mono ?_
  rintro e w8 ⟨v1, v3, v4, rfl, h1, h3, h4, hap, hb⟩
  obtain ⟨A1, c1, rfl⟩ := Kd.qC h1
  obtain ⟨A3, c3, rfl⟩ := RowI.lenSlice h3
  obtain ⟨A4, c4, rfl⟩ := RowI.lenSlice h4
  have HN7b := za.mk (F_of_R (Kd.zR (ok' := fun k => k < W7.heap.size) (Kd.Zm HN7.out) (fun k hk => hk.2.2.1)))
  have hsz8 := hb.size
  have HA8 := za.mk (zh ((hb.block _ (by omega)).trans HA7.out) (.cells #[.int .i64 (N : Int), .slice A1 l.length c1, .int .i64 (W : Int), .slice A3 owner.length c3, .slice A4 heavy.length c4, .slice none 0 0, .slice none 0 0] 37))
  have HP8 := za.mk (zh ((hb.block _ (by omega)).trans HP7.out) (.cells #[.int .i64 (N : Int), .slice A1 l.length c1, .int .i64 (W : Int), .slice A3 owner.length c3, .slice A4 heavy.length c4, .slice none 0 0, .slice none 0 0] 37))
  have HZ8 := za.mk (zh ((hb.block _ (by omega)).trans HZ7.out) (.cells #[.int .i64 (N : Int), .slice A1 l.length c1, .int .i64 (W : Int), .slice A3 owner.length c3, .slice A4 heavy.length c4, .slice none 0 0, .slice none 0 0] 37))
  have HX8 := za.mk (zh ((hb.block _ (qg HX7.out)).trans HX7.out) (.cells #[.int .i64 (N : Int), .slice A1 l.length c1, .int .i64 (W : Int), .slice A3 owner.length c3, .slice A4 heavy.length c4, .slice none 0 0, .slice none 0 0] 37))
  have HY8 := za.mk (heap_alloc_new w8 (.cells #[.int .i64 (N : Int), .slice A1 l.length c1, .int .i64 (W : Int), .slice A3 owner.length c3, .slice A4 heavy.length c4, .slice none 0 0, .slice none 0 0] 37))
  have HN8 := za.mk (Kd.F_mono (ok' := fun k => k < w8.heap.size) (qZ HN7b.out (hb.trans (qO (Below.refl W7.heap.size w8) hsz8 (.cells #[.int .i64 (N : Int), .slice A1 l.length c1, .int .i64 (W : Int), .slice A3 owner.length c3, .slice A4 heavy.length c4, .slice none 0 0, .slice none 0 0] 37))) (fun _ hk => hk)) (fun k hk => by omega))
  have HE8 := za.mk (Kd.zR (ok' := fun k => k < w8.heap.size) (Kd.zn (Kd.Zm h1) (.cells #[.int .i64 (N : Int), .slice A1 l.length c1, .int .i64 (W : Int), .slice A3 owner.length c3, .slice A4 heavy.length c4, .slice none 0 0, .slice none 0 0] 37)) (fun k hk => hk.2.2.1))
  have H38 := za.mk (Kd.zR (ok' := fun k => k < w8.heap.size) (Kd.zn (Kd.Zm h3.R) (.cells #[.int .i64 (N : Int), .slice A1 l.length c1, .int .i64 (W : Int), .slice A3 owner.length c3, .slice A4 heavy.length c4, .slice none 0 0, .slice none 0 0] 37)) (fun k hk => hk.2.2.1))
  have H48 := za.mk (Kd.zR (ok' := fun k => k < w8.heap.size) (Kd.zn (Kd.Zm h4.R) (.cells #[.int .i64 (N : Int), .slice A1 l.length c1, .int .i64 (W : Int), .slice A3 owner.length c3, .slice A4 heavy.length c4, .slice none 0 0, .slice none 0 0] 37)) (fun k hk => hk.2.2.1))
  have HOF := za.mk (qZ (F_of_CI HO.out) ((HB7.out.trans (hb.mono (by omega))).trans (qO (Below.refl w.heap.size w8) (by omega) (.cells #[.int .i64 (N : Int), .slice A1 l.length c1, .int .i64 (W : Int), .slice A3 owner.length c3, .slice A4 heavy.length c4, .slice none 0 0, .slice none 0 0] 37))) (fun _ hk => hk))
  have HB8 := za.mk ((HB7.out.trans (hb.mono (by omega))).trans (qO (Below.refl w.heap.size w8) (by omega) (.cells #[.int .i64 (N : Int), .slice A1 l.length c1, .int .i64 (W : Int), .slice A3 owner.length c3, .slice A4 heavy.length c4, .slice none 0 0, .slice none 0 0] 37)))
  have HAP := za.mk hap
  have hs8 : (w8.alloc (.cells #[.int .i64 (N : Int), .slice A1 l.length c1, .int .i64 (W : Int), .slice A3 owner.length c3, .slice A4 heavy.length c4, .slice none 0 0, .slice none 0 0] 37)).heap.size = w8.heap.size + 1 := by simp
  have hq78 : q7 < w8.heap.size := by have := qg HX7.out; omega
  have hqq : w.heap.size + 2 < w8.heap.size := by omega
  have hb3 := ze HP8.out 0
  clear HN7b h1 h3 h4 hap hb HA7 HP7 HZ7 HX7 HN7 HB7 ha0 ha1 hb0 hb1 hb2 hsz8
  have hW7s : W7.heap.size ≤ W7.heap.size := Nat.le_refl _
  go_wp2_with fail
  clear hb3
  generalize w8.alloc (.cells #[.int .i64 (N : Int), .slice A1 l.length c1, .int .i64 (W : Int), .slice A3 owner.length c3, .slice A4 heavy.length c4, .slice none 0 0, .slice none 0 0] 37) = W8 at *
  generalize w8.heap.size = q8 at *
  go_loopg [32] W (fun gg s32 wr => ∃ (i : Nat) (kv bv : Value), i ≤ W ∧ W - i ≤ gg ∧ s32 = .int .i64 i ∧ za (Below q8 W8 wr) ∧ za (wr.heap[q8]? = some (.cells #[.int .i64 (N : Int), .slice A1 l.length c1, .int .i64 (W : Int), .slice A3 owner.length c3, .slice A4 heavy.length c4, kv, bv] 37 (0, 0))) ∧ za (kL.R 22 wr (q8 + 1) (fun _ => True) kv ((List.range i).map fun (i : Nat) => kOf near owner N (i : Int))) ∧ za (kB.R 41 wr (q8 + 1) (fun _ => True) bv ((List.range i).map fun (i : Nat) => bOf near owner N W (i : Int))))
  case atStart => exact ⟨0, .slice none 0 0, .slice none 0 0, Nat.zero_le _, by omega, rfl, ⟨Below.refl _ _⟩, HY8, ⟨Kd.ZO _ _ _ _ _⟩, ⟨Kd.ZO _ _ _ _ _⟩⟩
  case round =>
   clear HY8
   generalize hw9 : wr = w9 at *
   clear hw9
   obtain ⟨i, kv, bv, hi, hgi, rfl, HB9, HY9, HK9, HM9⟩ := hrel
   by_cases hiW : i < W
   ·have hib : (i : Int) < (W : Int) := by omega
    have hs9 := HB9.out.size
    have HA9 := za.mk ((HB9.out.block _ (by omega)).trans HA8.out)
    have HP9 := za.mk ((HB9.out.block _ (by omega)).trans HP8.out)
    have HX9 := za.mk ((HB9.out.block _ hq78).trans HX8.out)
    have HN9 := za.mk (qZ HN8.out HB9.out (fun _ hk => hk))
    have HO9 := za.mk (Kd.F_mono (ok' := fun k => k < q8) (qZ HOF.out HB9.out (fun k hk => by omega)) (fun k hk => by omega))
    have ha0 := ze HA9.out 0
    have ha0' := ze (zh HA9.out (.cells #[.int .i64 (N : Int)] 3)) 0
    go_wp2_with fail
    have HQ := za.mk (heap_alloc_new w9 (.cells #[.int .i64 (N : Int)] 3))
    have HBR := za.mk (zf (Below.refl w9.heap.size w9) (.cells #[.int .i64 (N : Int)] 3))
    have hsQ : (w9.alloc (.cells #[.int .i64 (N : Int)] 3)).heap.size = w9.heap.size + 1 := by simp
    clear ha0 ha0'
    refine (Repeat_c N (by omega) N w9.heap.size _ HQ.out).mono ?_
    rintro e w1 ⟨k1, rfl, hk1, hb1⟩
    have HB1 := za.mk (HBR.out.trans (hb1.mono (by omega)))
    have HK1 := za.mk (hk1.lower (show w9.heap.size ≤ _ by omega))
    have hs1 := HB1.out.size
    clear HQ HBR hk1 hb1 hsQ
    obtain ⟨Ak, ck, e⟩ := RowI.lenSlice HK1.out
    rw [List.length_replicate] at e
    subst e
    rw [← k0At_zero near owner N i] at HK1
    have HX1 := za.mk ((HB1.out.block _ (qg HX9.out)).trans HX9.out)
    have hx3 := ze HX1.out 3
    go_wp2_with fail
    clear hx3 HX1
    have HNL := za.mk HSH.out.nl
    go_loopg [44] N (fun gg s44 w2 => ∃ j : Nat, j ≤ N ∧ N - j ≤ gg ∧ s44 = .int .i64 j ∧ za (RowI w2 w9.heap.size (.slice Ak N ck) (k0At near owner N i j)) ∧ za (Below w9.heap.size w9 w2))
    case atStart => exact ⟨0, Nat.zero_le _, by omega, rfl, HK1, HB1⟩
    case round =>
     clear HK1 HB1
     obtain ⟨j, hj, hgj, rfl, HK2, HB2⟩ := hrel
     have HQ2 := za.mk (HB2.out.mono (show q8 ≤ w9.heap.size by omega))
     have HP2 := za.mk ((HB2.out.block _ (qg HP9.out)).trans HP9.out)
     by_cases hjN : j < N
     ·have hjn : (j : Int) < (near.length : Int) := by have := HNL.out; omega
      have hjo : (j : Int) < (owner.length : Int) := by have := HOL.out; omega
      have hjk : (j : Int) < (N : Int) := by omega
      have hj0 : (0 : Int) ≤ (j : Int) := by omega
      have HCn := za.mk (Kd.F_now (qZ HN9.out HQ2.out (fun _ hk => hk)))
      have HCo := za.mk (Kd.F_now (qZ HO9.out HQ2.out (fun _ hk => hk)))
      obtain ⟨adn, A0, c0, e, hxn, _, _⟩ := rowAt HCn.out j (by have := HNL.out; omega)
      cases e
      obtain ⟨ado, e, hxo⟩ := intAt HCo.out j (by have := HOL.out; omega)
      cases e
      have hkl := k0At_length near owner N i j
      obtain ⟨adk, e, hxk⟩ := intAt HK2.out.reads'.2.2 j (by rw [hkl]; exact hjN)
      cases e
      obtain ⟨hc1, hf1, hrow, hgr⟩ := HK2.out.store j (by rw [hkl]; exact hjN) ((near.getD j []).length : Int)
      have EN := za.mk (show near.getD j [] = near[j]'(by have := HNL.out; omega) by simp [List.getD_eq_getElem?_getD, show j < near.length by have := HNL.out; omega])
      have EO := za.mk (show rd owner (j : Int) = owner[j]'(by have := HOL.out; omega) from Zv _ _ (by have := HOL.out; omega))
      rw [EN.out] at hrow hgr
      have HRW := za.mk hrow
      have HGR := za.mk hgr
      have hb1 := ze HP2.out 1
      have HST := za.mk (fun h => k0At_set near owner N i j hjN h)
      have HSK := za.mk (fun h => k0At_skip near owner N i j h)
      rw [EN.out] at HST
      generalize near[j]'(by have := HNL.out; omega) = nj at *
      generalize owner[j]'(by have := HOL.out; omega) = ov at *
      generalize (k0At near owner N (↑i) j)[j]'(by rw [hkl]; exact hjN) = kj at *
      clear hxk hrow hgr hkl
      by_cases hov : ov = i
      ·subst hov
       have hovb : ((i : Int) == (i : Int)) = true := by simp
       go_wp2_with fail
       go_roundg (N - (j + 1))
       case measure => omega
       case rel => exact ⟨j + 1, by omega, by omega, by go_num, ⟨by rw [← HST.out EO.out]; exact HRW.out⟩, ⟨HB2.out.grown HGR.out (by have := HB2.out.size; omega) (Za HK2.out)⟩⟩
      ·have hovb : (ov == (i : Int)) = false := by simpa using hov
       go_wp2_with fail
       go_roundg (N - (j + 1))
       case measure => omega
       case rel => exact ⟨j + 1, by omega, by omega, by go_num, ⟨by rw [HSK.out (by rw [EO.out]; exact hov)]; exact HK2.out⟩, HB2⟩
     ·have hje : j = N := by omega
      subst hje
      have hjn : ¬ (j : Int) < (near.length : Int) := by have := HNL.out; omega
      have hs2 := HB2.out.size
      have HA2 := za.mk ((HB2.out.block _ (qg HA9.out)).trans HA9.out)
      have HX2 := za.mk ((HB2.out.block _ (qg HX9.out)).trans HX9.out)
      have HY2 := za.mk ((HB2.out.block _ (qg HY9.out)).trans HY9.out)
      have HKK2 := za.mk (Kd.zL HK9.out HB2.out)
      have HMM2 := za.mk (Kd.zL HM9.out HB2.out)
      have hx0 := ze HX2.out 0
      have hx1 := ze HX2.out 1
      have hx2 := ze HX2.out 2
      have hx3 := ze HX2.out 3
      generalize hwr : wr = w3 at *
      clear hwr
      go_wp2_with fail
      clear hx0 hx1 hx2 hx3
      have hq13 := heap_alloc_new w3 (.cells #[.int .i64 (W : Int), .slice Ao owner.length co, .slice Ah heavy.length ch, .slice An near.length cn, .int .i64 (i : Int), .slice Ak j ck] 79)
      have HT4 := za.mk hq13
      have HB4 := za.mk (qO HB2.out hs2 (.cells #[.int .i64 (W : Int), .slice Ao owner.length co, .slice Ah heavy.length ch, .slice An near.length cn, .int .i64 (i : Int), .slice Ak j ck] 79))
      have HY4 := za.mk (zh HY2.out (.cells #[.int .i64 (W : Int), .slice Ao owner.length co, .slice Ah heavy.length ch, .slice An near.length cn, .int .i64 (i : Int), .slice Ak j ck] 79))
      have HP4 := za.mk (zh HP2.out (.cells #[.int .i64 (W : Int), .slice Ao owner.length co, .slice Ah heavy.length ch, .slice An near.length cn, .int .i64 (i : Int), .slice Ak j ck] 79))
      have HKK4 := za.mk (Kd.zn HKK2.out (.cells #[.int .i64 (W : Int), .slice Ao owner.length co, .slice Ah heavy.length ch, .slice An near.length cn, .int .i64 (i : Int), .slice Ak j ck] 79))
      have HMM4 := za.mk (Kd.zn HMM2.out (.cells #[.int .i64 (W : Int), .slice Ao owner.length co, .slice Ah heavy.length ch, .slice An near.length cn, .int .i64 (i : Int), .slice Ak j ck] 79))
      have HK4 := za.mk (RowI.alloc' HK2.out (.cells #[.int .i64 (W : Int), .slice Ao owner.length co, .slice Ah heavy.length ch, .slice An near.length cn, .int .i64 (i : Int), .slice Ak j ck] 79))
      have hs4 : (w3.alloc (.cells #[.int .i64 (W : Int), .slice Ao owner.length co, .slice Ah heavy.length ch, .slice An near.length cn, .int .i64 (i : Int), .slice Ak j ck] 79)).heap.size = w3.heap.size + 1 := by simp
      clear hq13 HY2 HKK2 HMM2 HX2 HA2 HQ2
      generalize w3.alloc (.cells #[.int .i64 (W : Int), .slice Ao owner.length co, .slice Ah heavy.length ch, .slice An near.length cn, .int .i64 (i : Int), .slice Ak j ck] 79) = w4 at *
      generalize w3.heap.size = q13 at *
      have HQ4 := za.mk (HB4.out.mono (show q8 ≤ w9.heap.size by omega))
      have hkl := k0At_length near owner j i j
      refine (settle_c W Ao co owner Ah heavy.length ch An cn near i (.slice Ak j ck) (k0At near owner j i j) w9.heap.size w4 (by rw [hkl]; exact HSH.out) (fun k => k < q8) (fun k hk e => by have := Za HK4.out k e.symm; omega) (qZ HO9.out HQ4.out (fun _ hk => hk)) (qZ HN9.out HQ4.out (fun _ hk => hk)) HK4.out).mono ?_
      rintro e w5 ⟨rfl, hset, hg⟩
      have HK5 := za.mk (show RowI w5 w9.heap.size (.slice Ak j ck) (kOf near owner j i) from hset)
      have hkol : (kOf near owner j i).length = j := (HK5.out.reads'.1).symm
      have hs5 := hg.size
      have HB5 := za.mk (HB4.out.grown hg (by omega) (Za HK4.out))
      have HT5 := za.mk ((hg.block _ (qg HT4.out) (own_ne HK4.out HT4.out (by decide))).trans HT4.out)
      have HY5 := za.mk ((hg.block _ (qg HY4.out) (own_ne HK4.out HY4.out (by decide))).trans HY4.out)
      have HP5 := za.mk ((hg.block _ (qg HP4.out) (own_ne HK4.out HP4.out (by decide))).trans HP4.out)
      have HKK5 := za.mk (Kd.zL HK9.out HB5.out)
      have HMM5 := za.mk (Kd.zL HM9.out HB5.out)
      clear hset hg HK4 HB4 HT4 HY4 HP4 HKK4 HMM4 HQ4
      have hp0 := ze HP5.out 0
      have HSL := za.mk hkol
      clear hkol hkl
      have HOM6 := za.mk (OM_made w5 w5.heap.size W (Nat.le_refl _) (by omega))
      have HT6 := za.mk (zh HT5.out (.cells (madeCells #[.slice none 0 0] W) 42))
      have HB56 := za.mk (zf (Below.refl w5.heap.size w5) (.cells (madeCells #[.slice none 0 0] W) 42))
      have ht0 := ze HT6.out 0
      have ht1 := ze HT6.out 1
      have ht2 := ze HT6.out 2
      have ht3 := ze HT6.out 3
      have ht4 := ze HT6.out 4
      have ht5 := ze HT6.out 5
      have HQ5 := za.mk (HB5.out.mono (show q8 ≤ w9.heap.size by omega))
      have FO6 := za.mk (Kd.F_mono (ok' := fun k => k < w5.heap.size) (Kd.F_alloc (qZ HO9.out HQ5.out (fun _ hk => hk)) (.cells (madeCells #[.slice none 0 0] W) 42)) (fun k hk => by omega))
      have FN6 := za.mk (Kd.F_mono (ok' := fun k => k < w5.heap.size) (Kd.F_alloc (qZ HN9.out HQ5.out (fun _ hk => hk)) (.cells (madeCells #[.slice none 0 0] W) 42)) (fun k hk => by omega))
      have FK6 := za.mk (Kd.F_alloc (F_of_R (Kd.zR (ok' := fun k => k < w5.heap.size) (Kd.Zm HK5.out.R) (fun k hk => hk.2.2.1))) (.cells (madeCells #[.slice none 0 0] W) 42))
      go_wp2_with fail
      clear hp0 ht0 ht1 ht2 ht3 ht4 ht5
      have hcall := tell_c 38 #[] (fun _ => true) (enters Try.func38 rfl rfl) W Ao co owner Ah heavy.length ch An cn near i Ak ck (kOf near owner j i) w5.heap.size W w5.heap.size (List.replicate W nilv) (List.replicate W []) (w5.alloc (.cells (madeCells #[.slice none 0 0] W) 42)) (by rw [HSL.out]; exact HSH.out) (by rw [HSL.out]; omega) HNR.out (by rw [List.length_replicate]; exact HOW.out) FO6.out FN6.out FK6.out (by rw [List.length_replicate]; exact HOM6.out) (fun i => by simp [List.getD_eq_getElem?_getD, List.getElem?_replicate]; split <;> simp) (by simp) (fun W' v _ _ => start1_c v W')
      rw [HSL.out, List.length_replicate] at hcall
      refine hcall.mono ?_
      rintro e w7 ⟨rfl, ⟨vs, hom⟩, hb7⟩
      have HB57 := za.mk (HB56.out.trans hb7)
      have HB7 := za.mk (HB5.out.trans (HB57.out.mono (by omega)))
      have hs7 := HB57.out.size
      have HY7 := za.mk ((HB57.out.block _ (qg HY5.out)).trans HY5.out)
      have HKK7 := za.mk (Kd.zL HK9.out HB7.out)
      have HMM7 := za.mk (Kd.zL HM9.out HB7.out)
      have HK7 := za.mk (show RowI w7 w9.heap.size (.slice Ak j ck) (kOf near owner j i) from Qg HK5.out HB57.out)
      obtain ⟨ik, hok⟩ := Kd.Qk HKK7.out
      obtain ⟨ib, hob⟩ := Kd.Qk HM9.out
      have HKR := za.mk (show (Kd.int .i64).R 3 w7 (q8 + 1) (fun k => some k ≠ kv.ownBlock) (.slice Ak j ck) (kOf near owner j i) from Kd.R_of_own (enc := Value.int .i64) (h1 := fun _ => rfl) (HK7.out.lower (by omega)) (fun k hk e => (Zx HK7.out hok (by decide)).elim (fun h => by rw [h] at hk; cases hk) (fun h => h (hk.trans e))))
      have HMR := za.mk (show kM.R 42 w7 (q8 + 1) (fun k => some k ≠ bv.ownBlock) (.slice (some ⟨w5.heap.size, 0, none⟩) W W) (bOf near owner j W i) from Kd.qM (OM_R (ok := fun k => some k ≠ bv.ownBlock) hom (fun k hk _ e => by have := own_lt hob k e.symm; omega)) (by omega))
      have HQ7 := za.mk (HB7.out.mono (show q8 ≤ w9.heap.size by omega))
      have HQ8 := za.mk (HB9.out.trans HQ7.out)
      clear hom hb7 hcall hok hob HOM6 HT6 HB56 HB57 FO6 FN6 FK6 HQ5 HQ7 HT5 HY5 HP5 HKK5 HMM5 HK5 HB5
      go_wp2_with fail
      have HS1 := za.mk (show (fun w' => w'.cell? ⟨q8, 5, none⟩ = some kv ∧ w'.cell? ⟨q8, 6, none⟩ = some bv) w7.drew from ⟨ze HY7.out 5, ze HY7.out 6⟩)
      refine ZC 11 (fun w' => w'.cell? ⟨q8, 5, none⟩ = some kv ∧ w'.cell? ⟨q8, 6, none⟩ = some bv) (fun _ => True) (by kernel_rfl) ?_
      have HY := za.mk (show w7.drew.heap[q8]? = _ from HY7.out)
      have HKK := za.mk (Kd.zu HKK7.out)
      have HMM := za.mk (Kd.zu HMM7.out)
      have HKr := za.mk (Kd.zu HKR.out)
      have HMr := za.mk (Kd.zu HMR.out)
      have HQ := za.mk (show Below q8 W8 w7.drew from zb HQ8.out 1)
      have hsz : q8 + 1 ≤ w7.drew.heap.size := by have := qg HY.out; omega
      clear HY7 HKK7 HMM7 HKR HMR HQ8 HK7 HB7
      generalize w7.drew = w10 at *
      generalize w5.heap.size = gb at *
      refine zN (fun _ => True) (i := 0) (v := ?_) rfl (by kernel_rfl) (fun _ _ => trivial) (Or.inl fun _ _ => trivial) (by kernel_rfl) (by kernel_rfl) (by kernel_rfl) (fun _ _ _ h => h) (by kernel_rfl) (by kernel_rfl) (Or.inl ⟨by rfl, ?_⟩) HS1.out ?_
      rotate_left; (focus (intro w hSw; (try dsimp only at hSw); go_simp; try with_reducible rfl))
      try simp only [Act.put, List.setIfInBounds_toArray, List.set_cons_zero, List.set_cons_succ, List.getElem_toArray, List.getElem_cons_zero, List.getElem_cons_succ]
      refine zN _ (i := 1) (v := ?_) rfl (by kernel_rfl) (fun _ h => h) (Or.inr (by kernel_rfl)) (by kernel_rfl) (by kernel_rfl) (by kernel_rfl) (fun _ _ _ h => h) (by kernel_rfl) (by kernel_rfl) (Or.inl ⟨by rfl, ?_⟩) HS1.out ?_
      rotate_left; (focus (intro w hSw; (try dsimp only at hSw); go_simp; try with_reducible rfl))
      try simp only [Act.put, List.setIfInBounds_toArray, List.set_cons_zero, List.set_cons_succ, List.getElem_toArray, List.getElem_cons_zero, List.getElem_cons_succ]
      refine zN (fun _ => True) (i := 2) (v := ?_) rfl (by kernel_rfl) (fun _ _ => trivial) (Or.inl fun _ _ => trivial) (by kernel_rfl) (by kernel_rfl) (by kernel_rfl) (fun _ _ _ h => h) (by kernel_rfl) (by kernel_rfl) (Or.inl ⟨by rfl, ?_⟩) HS1.out ?_
      rotate_left; (focus (intro w hSw; (try dsimp only at hSw); go_simp; try with_reducible rfl))
      try simp only [Act.put, List.setIfInBounds_toArray, List.set_cons_zero, List.set_cons_succ, List.getElem_toArray, List.getElem_cons_zero, List.getElem_cons_succ]
      refine zN (fun _ => True) (i := 5) (v := ?_) rfl (by kernel_rfl) (fun _ _ => trivial) (Or.inl fun _ _ => trivial) (by kernel_rfl) (by kernel_rfl) (by kernel_rfl) (fun _ _ _ h => h) (by kernel_rfl) (by kernel_rfl) (Or.inl ⟨by rfl, ?_⟩) HS1.out ?_
      rotate_left; (focus (intro w hSw; (try dsimp only at hSw); go_simp; try with_reducible rfl))
      try simp only [Act.put, List.setIfInBounds_toArray, List.set_cons_zero, List.set_cons_succ, List.getElem_toArray, List.getElem_cons_zero, List.getElem_cons_succ]
      refine zN _ (i := 6) (v := ?_) rfl (by kernel_rfl) (fun _ h => h) (Or.inr (by kernel_rfl)) (by kernel_rfl) (by kernel_rfl) (by kernel_rfl) (fun _ _ _ h => h) (by kernel_rfl) (by kernel_rfl) (Or.inl ⟨by rfl, ?_⟩) HS1.out ?_
      rotate_left; (focus (intro w hSw; (try dsimp only at hSw); go_simp; try with_reducible rfl))
      try simp only [Act.put, List.setIfInBounds_toArray, List.set_cons_zero, List.set_cons_succ, List.getElem_toArray, List.getElem_cons_zero, List.getElem_cons_succ]
      refine zN (fun _ => True) (i := 7) (v := ?_) rfl (by kernel_rfl) (fun _ _ => trivial) (Or.inl fun _ _ => trivial) (by kernel_rfl) (by kernel_rfl) (by kernel_rfl) (fun _ _ _ h => h) (by kernel_rfl) (by kernel_rfl) (Or.inl ⟨by rfl, ?_⟩) HS1.out ?_
      rotate_left; (focus (intro w hSw; (try dsimp only at hSw); go_simp; try with_reducible rfl))
      try simp only [Act.put, List.setIfInBounds_toArray, List.set_cons_zero, List.set_cons_succ, List.getElem_toArray, List.getElem_cons_zero, List.getElem_cons_succ]
      refine qx (rs := [3, 8]) (by kernel_rfl) (by simp) (by kernel_rfl) (by kernel_rfl) ?_
      refine List.forall_mem_cons.2 ⟨?_, List.forall_mem_cons.2 ⟨?_, by simp⟩⟩
      ·refine wpOp_step rfl (fun K hK => ?_)
       replace hK := za.mk hK
       go_simp
       have HD3 := za.mk (heap_alloc_new w10 (.cells #[.slice Ak j ck] 22))
       replace HY := za.mk (zh HY.out (.cells #[.slice Ak j ck] 22))
       replace HKK := za.mk (Kd.zn HKK.out (.cells #[.slice Ak j ck] 22))
       replace HMM := za.mk (Kd.zn HMM.out (.cells #[.slice Ak j ck] 22))
       replace HKr := za.mk (Kd.zn HKr.out (.cells #[.slice Ak j ck] 22))
       replace HMr := za.mk (Kd.zn HMr.out (.cells #[.slice Ak j ck] 22))
       replace HQ := za.mk (qO HQ.out (by omega) (.cells #[.slice Ak j ck] 22))
       replace hsz : q8 + 1 ≤ (w10.alloc (.cells #[.slice Ak j ck] 22)).heap.size := by simp; omega
       replace HS1 := za.mk (show (fun w' => w'.cell? ⟨q8, 5, none⟩ = some kv ∧ w'.cell? ⟨q8, 6, none⟩ = some bv) (w10.alloc (.cells #[.slice Ak j ck] 22)) from ⟨ze HY.out 5, ze HY.out 6⟩)
       refine hK.out _ _ ⟨HS1.out, ?_⟩
       generalize w10.alloc (.cells #[.slice Ak j ck] 22) = wa at *
       generalize w10.heap.size = b3 at *
       clear hK K
       try simp only [Act.put, List.setIfInBounds_toArray, List.set_cons_zero, List.set_cons_succ, List.getElem_toArray, List.getElem_cons_zero, List.getElem_cons_succ]
       refine qx (rs := [4, 8]) (by kernel_rfl) (by simp) (by kernel_rfl) (by kernel_rfl) ?_
       refine List.forall_mem_cons.2 ⟨?_, List.forall_mem_cons.2 ⟨?_, by simp⟩⟩
       ·refine wpOp_step rfl (fun K hK => ?_)
        replace hK := za.mk hK
        obtain ⟨ik, hok⟩ := Kd.Qk HKK.out
        refine stepR (Kd.int .i64) 34 22 3 Try.underlying34 info22 wa (by rfl) (.tmp 75) (.tmp 77) (by rfl) (q8 + 1) kv ((List.range i).map fun (i : Nat) => kOf near owner j (i : Int)) (by rfl) HKK.out b3 _ (kOf near owner j i) (by rfl) HD3.out HKr.out (by simp; omega) hsz wa (Below.refl _ _) ?_
        intro v1 w1 hr1 hbl hg hat
        replace HY := za.mk ((hg.block _ (qg HY.out) (own_ne hok HY.out (by decide))).trans HY.out)
        replace HMM := za.mk (ZG HMM.out hok (by decide) hg)
        replace HMr := za.mk (ZG HMr.out hok (by decide) hg)
        replace hsz : q8 + 1 ≤ w1.heap.size := by have := hg.size; omega
        replace HQ := za.mk (HQ.out.trans (hbl.mono (by omega)))
        replace HKK := za.mk hr1
        replace HS1 := za.mk (show (fun w' => w'.cell? ⟨q8, 5, none⟩ = some kv ∧ w'.cell? ⟨q8, 6, none⟩ = some bv) w1 from ⟨ze HY.out 5, ze HY.out 6⟩)
        clear hg hat hbl hr1 hok
        refine hK.out _ _ ⟨HS1.out, ?_⟩
        clear hK K
        try simp only [Act.put, List.setIfInBounds_toArray, List.set_cons_zero, List.set_cons_succ, List.getElem_toArray, List.getElem_cons_zero, List.getElem_cons_succ]
        refine zN (fun _ => True) (i := 10) (v := ?_) rfl (by kernel_rfl) (fun _ _ => trivial) (Or.inl fun _ _ => trivial) (by kernel_rfl) (by kernel_rfl) (by kernel_rfl) (fun _ _ _ h => h) (by kernel_rfl) (by kernel_rfl) (Or.inl ⟨by rfl, ?_⟩) HS1.out ?_
        rotate_left; (focus (intro w hSw; (try dsimp only at hSw); go_simp; try with_reducible rfl))
        try simp only [Act.put, List.setIfInBounds_toArray, List.set_cons_zero, List.set_cons_succ, List.getElem_toArray, List.getElem_cons_zero, List.getElem_cons_succ]
        refine qx (rs := [8]) (by kernel_rfl) (by simp) (by kernel_rfl) (by kernel_rfl) ?_
        refine List.forall_mem_cons.2 ⟨?_, by simp⟩
        ·refine wpOp_step rfl (fun K hK => ?_)
         replace hK := za.mk hK
         go_simp
         have HD8 := za.mk (heap_alloc_new w1 (.cells #[.slice (some ⟨gb, 0, none⟩) W W] 41))
         replace HY := za.mk (zh HY.out (.cells #[.slice (some ⟨gb, 0, none⟩) W W] 41))
         replace HKK := za.mk (Kd.zn HKK.out (.cells #[.slice (some ⟨gb, 0, none⟩) W W] 41))
         replace HMM := za.mk (Kd.zn HMM.out (.cells #[.slice (some ⟨gb, 0, none⟩) W W] 41))
         replace HMr := za.mk (Kd.zn HMr.out (.cells #[.slice (some ⟨gb, 0, none⟩) W W] 41))
         replace HQ := za.mk (qO HQ.out (by omega) (.cells #[.slice (some ⟨gb, 0, none⟩) W W] 41))
         replace hsz : q8 + 1 ≤ (w1.alloc (.cells #[.slice (some ⟨gb, 0, none⟩) W W] 41)).heap.size := by simp; omega
         replace HS1 := za.mk (show (fun w' => w'.cell? ⟨q8, 5, none⟩ = some kv ∧ w'.cell? ⟨q8, 6, none⟩ = some bv) (w1.alloc (.cells #[.slice (some ⟨gb, 0, none⟩) W W] 41)) from ⟨ze HY.out 5, ze HY.out 6⟩)
         refine hK.out _ _ ⟨HS1.out, ?_⟩
         generalize w1.alloc (.cells #[.slice (some ⟨gb, 0, none⟩) W W] 41) = wc at *
         generalize w1.heap.size = b8 at *
         clear hK K
         try simp only [Act.put, List.setIfInBounds_toArray, List.set_cons_zero, List.set_cons_succ, List.getElem_toArray, List.getElem_cons_zero, List.getElem_cons_succ]
         refine qx (rs := [9]) (by kernel_rfl) (by simp) (by kernel_rfl) (by kernel_rfl) ?_
         refine List.forall_mem_cons.2 ⟨?_, by simp⟩
         ·refine wpOp_step rfl (fun K hK => ?_)
          replace hK := za.mk hK
          obtain ⟨ib, hob⟩ := Kd.Qk HMM.out
          refine stepR kM 35 41 42 Try.underlying35 info41 wc (by rfl) (.tmp 80) (.tmp 82) (by rfl) (q8 + 1) bv ((List.range i).map fun (i : Nat) => bOf near owner j W (i : Int)) (by rfl) HMM.out b8 _ (bOf near owner j W i) (by rfl) HD8.out HMr.out (by simp; omega) hsz wc (Below.refl _ _) ?_
          intro v2 w2 hr2 hbl hg hat
          replace HY := za.mk ((hg.block _ (qg HY.out) (own_ne hob HY.out (by decide))).trans HY.out)
          replace HKK := za.mk (ZG HKK.out hob (by decide) hg)
          replace hsz : q8 + 1 ≤ w2.heap.size := by have := hg.size; omega
          replace HQ := za.mk (HQ.out.trans (hbl.mono (by omega)))
          replace HMM := za.mk hr2
          replace HS1 := za.mk (show (fun w' => w'.cell? ⟨q8, 5, none⟩ = some kv ∧ w'.cell? ⟨q8, 6, none⟩ = some bv) w2 from ⟨ze HY.out 5, ze HY.out 6⟩)
          clear hg hat hbl hr2 hob
          refine hK.out _ _ ⟨HS1.out, ?_⟩
          clear hK K
          try simp only [Act.put, List.setIfInBounds_toArray, List.set_cons_zero, List.set_cons_succ, List.getElem_toArray, List.getElem_cons_zero, List.getElem_cons_succ]
          obtain ⟨A5, c5, rfl⟩ := Kd.qC HKK.out
          obtain ⟨A6, c6, rfl⟩ := Kd.qC HMM.out
          rw [List.length_append, List.length_map, List.length_range, List.length_singleton] at HKK HMM
          have hd1 := ze HY.out 5
          have hd2 := zl HY.out 5
          have HY3 := za.mk (zX HY.out 5 (.slice A5 (i + 1) c5) rfl)
          have HKK3 := za.mk (Kd.Zd HKK.out HY.out (by decide) 5 (.slice A5 (i + 1) c5))
          have HMM3 := za.mk (Kd.Zd HMM.out HY.out (by decide) 5 (.slice A5 (i + 1) c5))
          have HQ3 := za.mk (HQ.out.setCell (p := ⟨q8, 5, none⟩) (Nat.le_refl _) (.slice A5 (i + 1) c5))
          refine Zo (by kernel_rfl) (by kernel_rfl) ?_
          refine wpOp_step rfl (fun K hK => ?_)
          replace hK := za.mk hK
          go_simp
          refine hK.out _ _ ⟨trivial, ?_⟩
          clear hd1 hd2 HY HKK HMM HQ HS1
          generalize w2.setCell ⟨q8, 5, none⟩ (.slice A5 (i + 1) c5) = w12 at *
          clear hK K
          try simp only [Act.put, List.setIfInBounds_toArray, List.set_cons_zero, List.set_cons_succ, List.getElem_toArray, List.getElem_cons_zero, List.getElem_cons_succ]
          refine wpAnyH_take (i := 12) (v := ?_) rfl (by kernel_rfl) (by kernel_rfl) (by kernel_rfl) (fun _ _ _ h => h) (Or.inl ⟨by rfl, ?_⟩) trivial ?_
          rotate_left; (focus (intro w hSw; (try dsimp only at hSw); go_simp; try with_reducible rfl))
          try simp only [Act.put, List.setIfInBounds_toArray, List.set_cons_zero, List.set_cons_succ, List.getElem_toArray, List.getElem_cons_zero, List.getElem_cons_succ]
          have hd1 := ze HY3.out 6
          have hd2 := zl HY3.out 6
          have HY4 := za.mk (zX HY3.out 6 (.slice A6 (i + 1) c6) rfl)
          have HKK4 := za.mk (Kd.Zd HKK3.out HY3.out (by decide) 6 (.slice A6 (i + 1) c6))
          have HMM4 := za.mk (Kd.Zd HMM3.out HY3.out (by decide) 6 (.slice A6 (i + 1) c6))
          have HQ4 := za.mk (HQ3.out.setCell (p := ⟨q8, 6, none⟩) (Nat.le_refl _) (.slice A6 (i + 1) c6))
          refine wpAnyH_all (rs := [13]) (by kernel_rfl) (by simp) (List.forall_mem_cons.2 ⟨?_, by simp⟩)
          refine wpOp_step rfl (fun K hK => ?_)
          replace hK := za.mk hK
          go_simp
          refine hK.out _ _ ⟨trivial, ?_⟩
          clear hd1 hd2 HY3 HKK3 HMM3 HQ3
          generalize w12.setCell ⟨q8, 6, none⟩ (.slice A6 (i + 1) c6) = w13 at *
          clear hK K
          try simp only [Act.put, List.setIfInBounds_toArray, List.set_cons_zero, List.set_cons_succ, List.getElem_toArray, List.getElem_cons_zero, List.getElem_cons_succ]
          refine wpAnyH_done (by kernel_rfl) ?_ _
          go_wp2_with fail
          go_roundg (W - (i + 1))
          case measure => omega
          case rel => exact ⟨i + 1, _, _, by omega, by omega, by go_num, HQ4, HY4, ⟨by rw [List.range_succ, List.map_append]; exact HKK4.out⟩, ⟨by rw [List.range_succ, List.map_append]; exact HMM4.out⟩⟩
       ·refine wpOp_step rfl (fun K hK => ?_)
        replace hK := za.mk hK
        go_simp
        have HD8 := za.mk (heap_alloc_new wa (.cells #[.slice (some ⟨gb, 0, none⟩) W W] 41))
        replace HD3 := za.mk (zh HD3.out (.cells #[.slice (some ⟨gb, 0, none⟩) W W] 41))
        replace HY := za.mk (zh HY.out (.cells #[.slice (some ⟨gb, 0, none⟩) W W] 41))
        replace HKK := za.mk (Kd.zn HKK.out (.cells #[.slice (some ⟨gb, 0, none⟩) W W] 41))
        replace HMM := za.mk (Kd.zn HMM.out (.cells #[.slice (some ⟨gb, 0, none⟩) W W] 41))
        replace HKr := za.mk (Kd.zn HKr.out (.cells #[.slice (some ⟨gb, 0, none⟩) W W] 41))
        replace HMr := za.mk (Kd.zn HMr.out (.cells #[.slice (some ⟨gb, 0, none⟩) W W] 41))
        replace HQ := za.mk (qO HQ.out (by omega) (.cells #[.slice (some ⟨gb, 0, none⟩) W W] 41))
        replace hsz : q8 + 1 ≤ (wa.alloc (.cells #[.slice (some ⟨gb, 0, none⟩) W W] 41)).heap.size := by simp; omega
        replace HS1 := za.mk (show (fun w' => w'.cell? ⟨q8, 5, none⟩ = some kv ∧ w'.cell? ⟨q8, 6, none⟩ = some bv) (wa.alloc (.cells #[.slice (some ⟨gb, 0, none⟩) W W] 41)) from ⟨ze HY.out 5, ze HY.out 6⟩)
        refine hK.out _ _ ⟨HS1.out, ?_⟩
        generalize wa.alloc (.cells #[.slice (some ⟨gb, 0, none⟩) W W] 41) = wb at *
        generalize wa.heap.size = b8 at *
        clear hK K
        try simp only [Act.put, List.setIfInBounds_toArray, List.set_cons_zero, List.set_cons_succ, List.getElem_toArray, List.getElem_cons_zero, List.getElem_cons_succ]
        refine qx (rs := [4]) (by kernel_rfl) (by simp) (by kernel_rfl) (by kernel_rfl) ?_
        refine List.forall_mem_cons.2 ⟨?_, by simp⟩
        ·refine wpOp_step rfl (fun K hK => ?_)
         replace hK := za.mk hK
         obtain ⟨ik, hok⟩ := Kd.Qk HKK.out
         refine stepR (Kd.int .i64) 34 22 3 Try.underlying34 info22 wb (by rfl) (.tmp 75) (.tmp 77) (by rfl) (q8 + 1) kv ((List.range i).map fun (i : Nat) => kOf near owner j (i : Int)) (by rfl) HKK.out b3 _ (kOf near owner j i) (by rfl) HD3.out HKr.out (by simp; omega) hsz wb (Below.refl _ _) ?_
         intro v1 w1 hr1 hbl hg hat
         replace HY := za.mk ((hg.block _ (qg HY.out) (own_ne hok HY.out (by decide))).trans HY.out)
         replace HMM := za.mk (ZG HMM.out hok (by decide) hg)
         replace HMr := za.mk (ZG HMr.out hok (by decide) hg)
         replace HD8 := za.mk ((hg.block _ (qg HD8.out) (own_ne hok HD8.out (by decide))).trans HD8.out)
         replace hsz : q8 + 1 ≤ w1.heap.size := by have := hg.size; omega
         replace HQ := za.mk (HQ.out.trans (hbl.mono (by omega)))
         replace HKK := za.mk hr1
         replace HS1 := za.mk (show (fun w' => w'.cell? ⟨q8, 5, none⟩ = some kv ∧ w'.cell? ⟨q8, 6, none⟩ = some bv) w1 from ⟨ze HY.out 5, ze HY.out 6⟩)
         clear hg hat hbl hr1 hok
         refine hK.out _ _ ⟨HS1.out, ?_⟩
         clear hK K
         try simp only [Act.put, List.setIfInBounds_toArray, List.set_cons_zero, List.set_cons_succ, List.getElem_toArray, List.getElem_cons_zero, List.getElem_cons_succ]
         refine zN (fun _ => True) (i := 10) (v := ?_) rfl (by kernel_rfl) (fun _ _ => trivial) (Or.inl fun _ _ => trivial) (by kernel_rfl) (by kernel_rfl) (by kernel_rfl) (fun _ _ _ h => h) (by kernel_rfl) (by kernel_rfl) (Or.inl ⟨by rfl, ?_⟩) HS1.out ?_
         rotate_left; (focus (intro w hSw; (try dsimp only at hSw); go_simp; try with_reducible rfl))
         try simp only [Act.put, List.setIfInBounds_toArray, List.set_cons_zero, List.set_cons_succ, List.getElem_toArray, List.getElem_cons_zero, List.getElem_cons_succ]
         refine qx (rs := [9]) (by kernel_rfl) (by simp) (by kernel_rfl) (by kernel_rfl) ?_
         refine List.forall_mem_cons.2 ⟨?_, by simp⟩
         ·refine wpOp_step rfl (fun K hK => ?_)
          replace hK := za.mk hK
          obtain ⟨ib, hob⟩ := Kd.Qk HMM.out
          refine stepR kM 35 41 42 Try.underlying35 info41 w1 (by rfl) (.tmp 80) (.tmp 82) (by rfl) (q8 + 1) bv ((List.range i).map fun (i : Nat) => bOf near owner j W (i : Int)) (by rfl) HMM.out b8 _ (bOf near owner j W i) (by rfl) HD8.out HMr.out (by simp; omega) hsz w1 (Below.refl _ _) ?_
          intro v2 w2 hr2 hbl hg hat
          replace HY := za.mk ((hg.block _ (qg HY.out) (own_ne hob HY.out (by decide))).trans HY.out)
          replace HKK := za.mk (ZG HKK.out hob (by decide) hg)
          replace hsz : q8 + 1 ≤ w2.heap.size := by have := hg.size; omega
          replace HQ := za.mk (HQ.out.trans (hbl.mono (by omega)))
          replace HMM := za.mk hr2
          replace HS1 := za.mk (show (fun w' => w'.cell? ⟨q8, 5, none⟩ = some kv ∧ w'.cell? ⟨q8, 6, none⟩ = some bv) w2 from ⟨ze HY.out 5, ze HY.out 6⟩)
          clear hg hat hbl hr2 hob
          refine hK.out _ _ ⟨HS1.out, ?_⟩
          clear hK K
          try simp only [Act.put, List.setIfInBounds_toArray, List.set_cons_zero, List.set_cons_succ, List.getElem_toArray, List.getElem_cons_zero, List.getElem_cons_succ]
          obtain ⟨A5, c5, rfl⟩ := Kd.qC HKK.out
          obtain ⟨A6, c6, rfl⟩ := Kd.qC HMM.out
          rw [List.length_append, List.length_map, List.length_range, List.length_singleton] at HKK HMM
          have hd1 := ze HY.out 5
          have hd2 := zl HY.out 5
          have HY3 := za.mk (zX HY.out 5 (.slice A5 (i + 1) c5) rfl)
          have HKK3 := za.mk (Kd.Zd HKK.out HY.out (by decide) 5 (.slice A5 (i + 1) c5))
          have HMM3 := za.mk (Kd.Zd HMM.out HY.out (by decide) 5 (.slice A5 (i + 1) c5))
          have HQ3 := za.mk (HQ.out.setCell (p := ⟨q8, 5, none⟩) (Nat.le_refl _) (.slice A5 (i + 1) c5))
          refine Zo (by kernel_rfl) (by kernel_rfl) ?_
          refine wpOp_step rfl (fun K hK => ?_)
          replace hK := za.mk hK
          go_simp
          refine hK.out _ _ ⟨trivial, ?_⟩
          clear hd1 hd2 HY HKK HMM HQ HS1
          generalize w2.setCell ⟨q8, 5, none⟩ (.slice A5 (i + 1) c5) = w12 at *
          clear hK K
          try simp only [Act.put, List.setIfInBounds_toArray, List.set_cons_zero, List.set_cons_succ, List.getElem_toArray, List.getElem_cons_zero, List.getElem_cons_succ]
          refine wpAnyH_take (i := 12) (v := ?_) rfl (by kernel_rfl) (by kernel_rfl) (by kernel_rfl) (fun _ _ _ h => h) (Or.inl ⟨by rfl, ?_⟩) trivial ?_
          rotate_left; (focus (intro w hSw; (try dsimp only at hSw); go_simp; try with_reducible rfl))
          try simp only [Act.put, List.setIfInBounds_toArray, List.set_cons_zero, List.set_cons_succ, List.getElem_toArray, List.getElem_cons_zero, List.getElem_cons_succ]
          have hd1 := ze HY3.out 6
          have hd2 := zl HY3.out 6
          have HY4 := za.mk (zX HY3.out 6 (.slice A6 (i + 1) c6) rfl)
          have HKK4 := za.mk (Kd.Zd HKK3.out HY3.out (by decide) 6 (.slice A6 (i + 1) c6))
          have HMM4 := za.mk (Kd.Zd HMM3.out HY3.out (by decide) 6 (.slice A6 (i + 1) c6))
          have HQ4 := za.mk (HQ3.out.setCell (p := ⟨q8, 6, none⟩) (Nat.le_refl _) (.slice A6 (i + 1) c6))
          refine wpAnyH_all (rs := [13]) (by kernel_rfl) (by simp) (List.forall_mem_cons.2 ⟨?_, by simp⟩)
          refine wpOp_step rfl (fun K hK => ?_)
          replace hK := za.mk hK
          go_simp
          refine hK.out _ _ ⟨trivial, ?_⟩
          clear hd1 hd2 HY3 HKK3 HMM3 HQ3
          generalize w12.setCell ⟨q8, 6, none⟩ (.slice A6 (i + 1) c6) = w13 at *
          clear hK K
          try simp only [Act.put, List.setIfInBounds_toArray, List.set_cons_zero, List.set_cons_succ, List.getElem_toArray, List.getElem_cons_zero, List.getElem_cons_succ]
          refine wpAnyH_done (by kernel_rfl) ?_ _
          go_wp2_with fail
          go_roundg (W - (i + 1))
          case measure => omega
          case rel => exact ⟨i + 1, _, _, by omega, by omega, by go_num, HQ4, HY4, ⟨by rw [List.range_succ, List.map_append]; exact HKK4.out⟩, ⟨by rw [List.range_succ, List.map_append]; exact HMM4.out⟩⟩
      ·refine wpOp_step rfl (fun K hK => ?_)
       replace hK := za.mk hK
       go_simp
       have HD8 := za.mk (heap_alloc_new w10 (.cells #[.slice (some ⟨gb, 0, none⟩) W W] 41))
       replace HY := za.mk (zh HY.out (.cells #[.slice (some ⟨gb, 0, none⟩) W W] 41))
       replace HKK := za.mk (Kd.zn HKK.out (.cells #[.slice (some ⟨gb, 0, none⟩) W W] 41))
       replace HMM := za.mk (Kd.zn HMM.out (.cells #[.slice (some ⟨gb, 0, none⟩) W W] 41))
       replace HKr := za.mk (Kd.zn HKr.out (.cells #[.slice (some ⟨gb, 0, none⟩) W W] 41))
       replace HMr := za.mk (Kd.zn HMr.out (.cells #[.slice (some ⟨gb, 0, none⟩) W W] 41))
       replace HQ := za.mk (qO HQ.out (by omega) (.cells #[.slice (some ⟨gb, 0, none⟩) W W] 41))
       replace hsz : q8 + 1 ≤ (w10.alloc (.cells #[.slice (some ⟨gb, 0, none⟩) W W] 41)).heap.size := by simp; omega
       replace HS1 := za.mk (show (fun w' => w'.cell? ⟨q8, 5, none⟩ = some kv ∧ w'.cell? ⟨q8, 6, none⟩ = some bv) (w10.alloc (.cells #[.slice (some ⟨gb, 0, none⟩) W W] 41)) from ⟨ze HY.out 5, ze HY.out 6⟩)
       refine hK.out _ _ ⟨HS1.out, ?_⟩
       generalize w10.alloc (.cells #[.slice (some ⟨gb, 0, none⟩) W W] 41) = wa at *
       generalize w10.heap.size = b8 at *
       clear hK K
       try simp only [Act.put, List.setIfInBounds_toArray, List.set_cons_zero, List.set_cons_succ, List.getElem_toArray, List.getElem_cons_zero, List.getElem_cons_succ]
       refine qx (rs := [3]) (by kernel_rfl) (by simp) (by kernel_rfl) (by kernel_rfl) ?_
       refine List.forall_mem_cons.2 ⟨?_, by simp⟩
       ·refine wpOp_step rfl (fun K hK => ?_)
        replace hK := za.mk hK
        go_simp
        have HD3 := za.mk (heap_alloc_new wa (.cells #[.slice Ak j ck] 22))
        replace HD8 := za.mk (zh HD8.out (.cells #[.slice Ak j ck] 22))
        replace HY := za.mk (zh HY.out (.cells #[.slice Ak j ck] 22))
        replace HKK := za.mk (Kd.zn HKK.out (.cells #[.slice Ak j ck] 22))
        replace HMM := za.mk (Kd.zn HMM.out (.cells #[.slice Ak j ck] 22))
        replace HKr := za.mk (Kd.zn HKr.out (.cells #[.slice Ak j ck] 22))
        replace HMr := za.mk (Kd.zn HMr.out (.cells #[.slice Ak j ck] 22))
        replace HQ := za.mk (qO HQ.out (by omega) (.cells #[.slice Ak j ck] 22))
        replace hsz : q8 + 1 ≤ (wa.alloc (.cells #[.slice Ak j ck] 22)).heap.size := by simp; omega
        replace HS1 := za.mk (show (fun w' => w'.cell? ⟨q8, 5, none⟩ = some kv ∧ w'.cell? ⟨q8, 6, none⟩ = some bv) (wa.alloc (.cells #[.slice Ak j ck] 22)) from ⟨ze HY.out 5, ze HY.out 6⟩)
        refine hK.out _ _ ⟨HS1.out, ?_⟩
        generalize wa.alloc (.cells #[.slice Ak j ck] 22) = wb at *
        generalize wa.heap.size = b3 at *
        clear hK K
        try simp only [Act.put, List.setIfInBounds_toArray, List.set_cons_zero, List.set_cons_succ, List.getElem_toArray, List.getElem_cons_zero, List.getElem_cons_succ]
        refine qx (rs := [4]) (by kernel_rfl) (by simp) (by kernel_rfl) (by kernel_rfl) ?_
        refine List.forall_mem_cons.2 ⟨?_, by simp⟩
        ·refine wpOp_step rfl (fun K hK => ?_)
         replace hK := za.mk hK
         obtain ⟨ik, hok⟩ := Kd.Qk HKK.out
         refine stepR (Kd.int .i64) 34 22 3 Try.underlying34 info22 wb (by rfl) (.tmp 75) (.tmp 77) (by rfl) (q8 + 1) kv ((List.range i).map fun (i : Nat) => kOf near owner j (i : Int)) (by rfl) HKK.out b3 _ (kOf near owner j i) (by rfl) HD3.out HKr.out (by simp; omega) hsz wb (Below.refl _ _) ?_
         intro v1 w1 hr1 hbl hg hat
         replace HY := za.mk ((hg.block _ (qg HY.out) (own_ne hok HY.out (by decide))).trans HY.out)
         replace HMM := za.mk (ZG HMM.out hok (by decide) hg)
         replace HMr := za.mk (ZG HMr.out hok (by decide) hg)
         replace HD8 := za.mk ((hg.block _ (qg HD8.out) (own_ne hok HD8.out (by decide))).trans HD8.out)
         replace hsz : q8 + 1 ≤ w1.heap.size := by have := hg.size; omega
         replace HQ := za.mk (HQ.out.trans (hbl.mono (by omega)))
         replace HKK := za.mk hr1
         replace HS1 := za.mk (show (fun w' => w'.cell? ⟨q8, 5, none⟩ = some kv ∧ w'.cell? ⟨q8, 6, none⟩ = some bv) w1 from ⟨ze HY.out 5, ze HY.out 6⟩)
         clear hg hat hbl hr1 hok
         refine hK.out _ _ ⟨HS1.out, ?_⟩
         clear hK K
         try simp only [Act.put, List.setIfInBounds_toArray, List.set_cons_zero, List.set_cons_succ, List.getElem_toArray, List.getElem_cons_zero, List.getElem_cons_succ]
         refine zN (fun _ => True) (i := 10) (v := ?_) rfl (by kernel_rfl) (fun _ _ => trivial) (Or.inl fun _ _ => trivial) (by kernel_rfl) (by kernel_rfl) (by kernel_rfl) (fun _ _ _ h => h) (by kernel_rfl) (by kernel_rfl) (Or.inl ⟨by rfl, ?_⟩) HS1.out ?_
         rotate_left; (focus (intro w hSw; (try dsimp only at hSw); go_simp; try with_reducible rfl))
         try simp only [Act.put, List.setIfInBounds_toArray, List.set_cons_zero, List.set_cons_succ, List.getElem_toArray, List.getElem_cons_zero, List.getElem_cons_succ]
         refine qx (rs := [9]) (by kernel_rfl) (by simp) (by kernel_rfl) (by kernel_rfl) ?_
         refine List.forall_mem_cons.2 ⟨?_, by simp⟩
         ·refine wpOp_step rfl (fun K hK => ?_)
          replace hK := za.mk hK
          obtain ⟨ib, hob⟩ := Kd.Qk HMM.out
          refine stepR kM 35 41 42 Try.underlying35 info41 w1 (by rfl) (.tmp 80) (.tmp 82) (by rfl) (q8 + 1) bv ((List.range i).map fun (i : Nat) => bOf near owner j W (i : Int)) (by rfl) HMM.out b8 _ (bOf near owner j W i) (by rfl) HD8.out HMr.out (by simp; omega) hsz w1 (Below.refl _ _) ?_
          intro v2 w2 hr2 hbl hg hat
          replace HY := za.mk ((hg.block _ (qg HY.out) (own_ne hob HY.out (by decide))).trans HY.out)
          replace HKK := za.mk (ZG HKK.out hob (by decide) hg)
          replace hsz : q8 + 1 ≤ w2.heap.size := by have := hg.size; omega
          replace HQ := za.mk (HQ.out.trans (hbl.mono (by omega)))
          replace HMM := za.mk hr2
          replace HS1 := za.mk (show (fun w' => w'.cell? ⟨q8, 5, none⟩ = some kv ∧ w'.cell? ⟨q8, 6, none⟩ = some bv) w2 from ⟨ze HY.out 5, ze HY.out 6⟩)
          clear hg hat hbl hr2 hob
          refine hK.out _ _ ⟨HS1.out, ?_⟩
          clear hK K
          try simp only [Act.put, List.setIfInBounds_toArray, List.set_cons_zero, List.set_cons_succ, List.getElem_toArray, List.getElem_cons_zero, List.getElem_cons_succ]
          obtain ⟨A5, c5, rfl⟩ := Kd.qC HKK.out
          obtain ⟨A6, c6, rfl⟩ := Kd.qC HMM.out
          rw [List.length_append, List.length_map, List.length_range, List.length_singleton] at HKK HMM
          have hd1 := ze HY.out 5
          have hd2 := zl HY.out 5
          have HY3 := za.mk (zX HY.out 5 (.slice A5 (i + 1) c5) rfl)
          have HKK3 := za.mk (Kd.Zd HKK.out HY.out (by decide) 5 (.slice A5 (i + 1) c5))
          have HMM3 := za.mk (Kd.Zd HMM.out HY.out (by decide) 5 (.slice A5 (i + 1) c5))
          have HQ3 := za.mk (HQ.out.setCell (p := ⟨q8, 5, none⟩) (Nat.le_refl _) (.slice A5 (i + 1) c5))
          refine Zo (by kernel_rfl) (by kernel_rfl) ?_
          refine wpOp_step rfl (fun K hK => ?_)
          replace hK := za.mk hK
          go_simp
          refine hK.out _ _ ⟨trivial, ?_⟩
          clear hd1 hd2 HY HKK HMM HQ HS1
          generalize w2.setCell ⟨q8, 5, none⟩ (.slice A5 (i + 1) c5) = w12 at *
          clear hK K
          try simp only [Act.put, List.setIfInBounds_toArray, List.set_cons_zero, List.set_cons_succ, List.getElem_toArray, List.getElem_cons_zero, List.getElem_cons_succ]
          refine wpAnyH_take (i := 12) (v := ?_) rfl (by kernel_rfl) (by kernel_rfl) (by kernel_rfl) (fun _ _ _ h => h) (Or.inl ⟨by rfl, ?_⟩) trivial ?_
          rotate_left; (focus (intro w hSw; (try dsimp only at hSw); go_simp; try with_reducible rfl))
          try simp only [Act.put, List.setIfInBounds_toArray, List.set_cons_zero, List.set_cons_succ, List.getElem_toArray, List.getElem_cons_zero, List.getElem_cons_succ]
          have hd1 := ze HY3.out 6
          have hd2 := zl HY3.out 6
          have HY4 := za.mk (zX HY3.out 6 (.slice A6 (i + 1) c6) rfl)
          have HKK4 := za.mk (Kd.Zd HKK3.out HY3.out (by decide) 6 (.slice A6 (i + 1) c6))
          have HMM4 := za.mk (Kd.Zd HMM3.out HY3.out (by decide) 6 (.slice A6 (i + 1) c6))
          have HQ4 := za.mk (HQ3.out.setCell (p := ⟨q8, 6, none⟩) (Nat.le_refl _) (.slice A6 (i + 1) c6))
          refine wpAnyH_all (rs := [13]) (by kernel_rfl) (by simp) (List.forall_mem_cons.2 ⟨?_, by simp⟩)
          refine wpOp_step rfl (fun K hK => ?_)
          replace hK := za.mk hK
          go_simp
          refine hK.out _ _ ⟨trivial, ?_⟩
          clear hd1 hd2 HY3 HKK3 HMM3 HQ3
          generalize w12.setCell ⟨q8, 6, none⟩ (.slice A6 (i + 1) c6) = w13 at *
          clear hK K
          try simp only [Act.put, List.setIfInBounds_toArray, List.set_cons_zero, List.set_cons_succ, List.getElem_toArray, List.getElem_cons_zero, List.getElem_cons_succ]
          refine wpAnyH_done (by kernel_rfl) ?_ _
          go_wp2_with fail
          go_roundg (W - (i + 1))
          case measure => omega
          case rel => exact ⟨i + 1, _, _, by omega, by omega, by go_num, HQ4, HY4, ⟨by rw [List.range_succ, List.map_append]; exact HKK4.out⟩, ⟨by rw [List.range_succ, List.map_append]; exact HMM4.out⟩⟩
   ·have hie : i = W := by omega
    subst hie
    have hib : ¬ (i : Int) < (i : Int) := by omega
    obtain ⟨A5, c5, rfl⟩ := Kd.qC HK9.out
    obtain ⟨A6, c6, rfl⟩ := Kd.qC HM9.out
    rw [List.length_map, List.length_range] at HK9 HM9
    have hx0 := ze HY9.out 0
    have hx1 := ze HY9.out 1
    have hx2 := ze HY9.out 2
    have hx3 := ze HY9.out 3
    have hx4 := ze HY9.out 4
    have hx5 := ze HY9.out 5
    have hx6 := ze HY9.out 6
    have HZ9 := za.mk ((HB9.out.block _ (by omega)).trans HZ8.out)
    have hy0 := ze HZ9.out 0
    have hy1 := ze HZ9.out 1
    have hy2 := ze HZ9.out 2
    have hy3 := ze HZ9.out 3
    have hy4 := ze HZ9.out 4
    have hy5 := ze HZ9.out 5
    have hy6 := ze HZ9.out 6
    have hz := fun k => zl HZ9.out k
    go_wp2_with fail
    obtain ⟨hp1, _, hp3⟩ := put7 (.int .i64 (N : Int)) (.slice A1 l.length c1) (.int .i64 (i : Int)) (.slice A3 owner.length c3) (.slice A4 heavy.length c4) (.slice A5 i c5) (.slice A6 i c6) HZ9.out
    have g1 := Kd.R_step HE8.out (fun k hk _ => HB9.out.block k hk)
    have g3 := Kd.R_step H38.out (fun k hk _ => HB9.out.block k hk)
    have g4 := Kd.R_step H48.out (fun k hk _ => HB9.out.block k hk)
    have l3 := H38.out.1
    have l4 := H48.out.1
    refine bodyPost_ret (results_ct rfl _ _ (w.heap.size + 2) 37 _ (0, 0) _ rfl hp1 Try.underlying37 rfl (by kernel_rfl)) rfl ?_
    exact ⟨_, _, _, _, _, rfl, put7g (.int .i64 (N : Int)) (.slice A1 l.length c1) (.int .i64 (i : Int)) (.slice A3 owner.length c3) (.slice A4 heavy.length c4) (.slice A5 i c5) (.slice A6 i c6) HZ9.out _ _ _ _ _ _ (by decide) (Kd.zR (Kd.qM g1 (by omega)) (fun _ _ => trivial)), RowI.of_R (put7g (.int .i64 (N : Int)) (.slice A1 l.length c1) (.int .i64 (i : Int)) (.slice A3 owner.length c3) (.slice A4 heavy.length c4) (.slice A5 i c5) (.slice A6 i c6) HZ9.out _ _ _ _ _ _ (by decide) (Kd.qM g3 (by omega))), RowI.of_R (put7g (.int .i64 (N : Int)) (.slice A1 l.length c1) (.int .i64 (i : Int)) (.slice A3 owner.length c3) (.slice A4 heavy.length c4) (.slice A5 i c5) (.slice A6 i c6) HZ9.out _ _ _ _ _ _ (by decide) (Kd.qM g4 (by omega))), HAP.out, put7g (.int .i64 (N : Int)) (.slice A1 l.length c1) (.int .i64 (i : Int)) (.slice A3 owner.length c3) (.slice A4 heavy.length c4) (.slice A5 i c5) (.slice A6 i c6) HZ9.out _ _ _ _ _ _ (by decide) (Kd.qM (Kd.zR (Kd.Zm HK9.out) (fun k hk => ⟨fun e => by have := l3 k e.symm; omega, fun e => by have := l4 k e.symm; omega⟩)) (by omega)), put7g (.int .i64 (N : Int)) (.slice A1 l.length c1) (.int .i64 (i : Int)) (.slice A3 owner.length c3) (.slice A4 heavy.length c4) (.slice A5 i c5) (.slice A6 i c6) HZ9.out _ _ _ _ _ _ (by decide) (Kd.qM HM9.out (by omega)), hp3 _ _ (HB8.out.trans (HB9.out.mono (by omega))) (by omega)⟩
 ·refine wpOp_step rfl (fun K hK => ?_)
  replace hK := za.mk hK
  go_simp
  have HXq := za.mk (heap_alloc_new W1 (.cells #[.int .i64 0, .slice none 0 0, .slice none 0 0, .slice none 0 0] 75))
  have HBq := za.mk (qO HB1.out (by omega) (.cells #[.int .i64 0, .slice none 0 0, .slice none 0 0, .slice none 0 0] 75))
  have HAq := za.mk (zh HA1.out (.cells #[.int .i64 0, .slice none 0 0, .slice none 0 0, .slice none 0 0] 75))
  have HPq := za.mk (zh HP1.out (.cells #[.int .i64 0, .slice none 0 0, .slice none 0 0, .slice none 0 0] 75))
  have HZq := za.mk (zh HZ1.out (.cells #[.int .i64 0, .slice none 0 0, .slice none 0 0, .slice none 0 0] 75))
  have HS := za.mk (show (fun w' => (w'.cell? ⟨w.heap.size, 0, none⟩ = some (.int .i64 (N : Int)) ∧ w'.cell? ⟨w.heap.size, 1, none⟩ = some (.slice A l.length c)) ∧ w'.cell? ⟨w.heap.size + 1, 0, none⟩ = some (.int .i64 (W : Int)) ∧ w'.cell? ⟨w.heap.size + 1, 1, none⟩ = some (.slice Ao owner.length co) ∧ w'.cell? ⟨w.heap.size + 1, 2, none⟩ = some (.slice Ah heavy.length ch)) (W1.alloc (.cells #[.int .i64 0, .slice none 0 0, .slice none 0 0, .slice none 0 0] 75)) from ⟨⟨ze HAq.out 0, ze HAq.out 1⟩, ze HPq.out 0, ze HPq.out 1, ze HPq.out 2⟩)
  have hsq : (W1.alloc (.cells #[.int .i64 0, .slice none 0 0, .slice none 0 0, .slice none 0 0] 75)).heap.size = W1.heap.size + 1 := by simp
  refine hK.out _ _ ⟨HS.out, ?_⟩
  clear HA1 HP1 HZ1 HB1
  generalize W1.alloc (.cells #[.int .i64 0, .slice none 0 0, .slice none 0 0, .slice none 0 0] 75) = Wq at *
  generalize W1.heap.size = q7 at *
  clear hK K
  try simp only [Act.put, List.setIfInBounds_toArray, List.set_cons_zero, List.set_cons_succ, List.getElem_toArray, List.getElem_cons_zero, List.getElem_cons_succ]
  refine qx (rs := [2]) (by kernel_rfl) (by simp) (by kernel_rfl) (by kernel_rfl) ?_
  refine List.forall_mem_cons.2 ⟨?_, by simp⟩
  refine wpOp_step rfl (fun K hK => ?_)
  replace hK := za.mk hK
  go_simp
  refine (HNB.out Wq (Kd.qB HR.out HBq.out)).mono ?_
  rintro e w2 ⟨vn, vs, rfl, hn, hb⟩
  have HN2 := za.mk (OI_R (ok := fun k => Wq.heap.size ≤ k) hn (fun k hk _ => hk))
  have HA2 := za.mk ((hb.block _ (by omega)).trans HAq.out)
  have HP2 := za.mk ((hb.block _ (by omega)).trans HPq.out)
  have HZ2 := za.mk ((hb.block _ (by omega)).trans HZq.out)
  have HB2 := za.mk (HBq.out.trans (hb.mono (by omega)))
  have hs2 := hb.size
  have HS := za.mk (show (fun w' => (w'.cell? ⟨w.heap.size, 0, none⟩ = some (.int .i64 (N : Int)) ∧ w'.cell? ⟨w.heap.size, 1, none⟩ = some (.slice A l.length c)) ∧ w'.cell? ⟨w.heap.size + 1, 0, none⟩ = some (.int .i64 (W : Int)) ∧ w'.cell? ⟨w.heap.size + 1, 1, none⟩ = some (.slice Ao owner.length co) ∧ w'.cell? ⟨w.heap.size + 1, 2, none⟩ = some (.slice Ah heavy.length ch)) w2 from ⟨⟨ze HA2.out 0, ze HA2.out 1⟩, ze HP2.out 0, ze HP2.out 1, ze HP2.out 2⟩)
  dsimp only
  obtain ⟨An, cn, e⟩ := Kd.qC HN2.out
  subst e
  have HX4 := za.mk ((hb.block _ (by omega)).trans HXq.out)
  have HN4 := za.mk (Kd.qM (base' := w.heap.size + 3) (Kd.zR (ok' := fun k => k ≠ q7) HN2.out (fun k hk => by omega)) (by omega))
  have HA4 := HA2
  have HP4 := HP2
  have HZ4 := HZ2
  have HB4 := HB2
  have hq7 : w.heap.size + 2 < q7 := by omega
  have hs4 := hs2
  refine hK.out _ _ ⟨HS.out, ?_⟩
  clear hb hn
  generalize hW4 : w2 = W4 at *
  clear hW4
  clear hK K
  try simp only [Act.put, List.setIfInBounds_toArray, List.set_cons_zero, List.set_cons_succ, List.getElem_toArray, List.getElem_cons_zero, List.getElem_cons_succ]
  refine zN (fun _ => True) (i := 3) (v := ?_) rfl (by kernel_rfl) (fun _ _ => trivial) (Or.inl fun _ _ => trivial) (by kernel_rfl) (by kernel_rfl) (by kernel_rfl) (fun _ _ _ h => h) (by kernel_rfl) (by kernel_rfl) (Or.inl ⟨by rfl, ?_⟩) HS.out ?_
  rotate_left; (focus (intro w hSw; (try dsimp only at hSw); go_simp; try with_reducible rfl))
  try simp only [Act.put, List.setIfInBounds_toArray, List.set_cons_zero, List.set_cons_succ, List.getElem_toArray, List.getElem_cons_zero, List.getElem_cons_succ]
  obtain ⟨hp1, hp2, hp3, hp4, hp5⟩ := put4 (.int .i64 (W : Int)) (.slice Ao owner.length co) (.slice Ah heavy.length ch) (.slice An near.length cn) HX4.out
  have HX7 := za.mk hp1
  have HN7 := za.mk (hp2 _ _ _ _ _ _ (fun k hk => hk) HN4.out)
  have HB7 := za.mk (hp3 _ _ HB4.out (by omega))
  have HA7 := za.mk ((hp5 _ (by omega)).trans HA4.out)
  have HP7 := za.mk ((hp5 _ (by omega)).trans HP4.out)
  have HZ7 := za.mk ((hp5 _ (by omega)).trans HZ4.out)
  have hd0 := ze HX4.out 0
  have hd1 := ze HX4.out 1
  have hd2 := ze HX4.out 2
  have hd3 := ze HX4.out 3
  have hdf := fun i => zl HX4.out i
  clear hp1 hp2 hp3 hp5
  refine Zo (by kernel_rfl) (by kernel_rfl) ?_
  refine wpOp_step rfl (fun K hK => ?_)
  replace hK := za.mk hK
  go_simp
  refine hK.out _ _ ⟨trivial, ?_⟩
  clear hK K
  try simp only [Act.put, List.setIfInBounds_toArray, List.set_cons_zero, List.set_cons_succ, List.getElem_toArray, List.getElem_cons_zero, List.getElem_cons_succ]
  refine wpAnyH_done (by kernel_rfl) ?_ _
  have hs7 := hp4
  clear hd0 hd1 hd2 hd3 hdf hp4 HX4 HN4 HB4 HA4 HP4 HZ4 HS
  generalize (((W4.setCell ⟨q7, 0, none⟩ (.int .i64 (W : Int))).setCell ⟨q7, 1, none⟩ (.slice Ao owner.length co)).setCell ⟨q7, 2, none⟩ (.slice Ah heavy.length ch)).setCell ⟨q7, 3, none⟩ (.slice An near.length cn) = W7 at *
  have ha0 := ze HA7.out 0
  have ha1 := ze HA7.out 1
  have hb0 := ze HP7.out 0
  have hb1 := ze HP7.out 1
  have hb2 := ze HP7.out 2
  go_wp2_with fail
  refine (HCP.out W7 (Kd.qB HR.out HB7.out) (Kd.qB HO.out HB7.out) (Kd.qB HH.out HB7.out)).mono ?_
  rintro e w8 ⟨v1, v3, v4, rfl, h1, h3, h4, hap, hb⟩
  obtain ⟨A1, c1, rfl⟩ := Kd.qC h1
  obtain ⟨A3, c3, rfl⟩ := RowI.lenSlice h3
  obtain ⟨A4, c4, rfl⟩ := RowI.lenSlice h4
  have HN7b := za.mk (F_of_R (Kd.zR (ok' := fun k => k < W7.heap.size) (Kd.Zm HN7.out) (fun k hk => hk.2.2.1)))
  have hsz8 := hb.size
  have HA8 := za.mk (zh ((hb.block _ (by omega)).trans HA7.out) (.cells #[.int .i64 (N : Int), .slice A1 l.length c1, .int .i64 (W : Int), .slice A3 owner.length c3, .slice A4 heavy.length c4, .slice none 0 0, .slice none 0 0] 37))
  have HP8 := za.mk (zh ((hb.block _ (by omega)).trans HP7.out) (.cells #[.int .i64 (N : Int), .slice A1 l.length c1, .int .i64 (W : Int), .slice A3 owner.length c3, .slice A4 heavy.length c4, .slice none 0 0, .slice none 0 0] 37))
  have HZ8 := za.mk (zh ((hb.block _ (by omega)).trans HZ7.out) (.cells #[.int .i64 (N : Int), .slice A1 l.length c1, .int .i64 (W : Int), .slice A3 owner.length c3, .slice A4 heavy.length c4, .slice none 0 0, .slice none 0 0] 37))
  have HX8 := za.mk (zh ((hb.block _ (qg HX7.out)).trans HX7.out) (.cells #[.int .i64 (N : Int), .slice A1 l.length c1, .int .i64 (W : Int), .slice A3 owner.length c3, .slice A4 heavy.length c4, .slice none 0 0, .slice none 0 0] 37))
  have HY8 := za.mk (heap_alloc_new w8 (.cells #[.int .i64 (N : Int), .slice A1 l.length c1, .int .i64 (W : Int), .slice A3 owner.length c3, .slice A4 heavy.length c4, .slice none 0 0, .slice none 0 0] 37))
  have HN8 := za.mk (Kd.F_mono (ok' := fun k => k < w8.heap.size) (qZ HN7b.out (hb.trans (qO (Below.refl W7.heap.size w8) hsz8 (.cells #[.int .i64 (N : Int), .slice A1 l.length c1, .int .i64 (W : Int), .slice A3 owner.length c3, .slice A4 heavy.length c4, .slice none 0 0, .slice none 0 0] 37))) (fun _ hk => hk)) (fun k hk => by omega))
  have HE8 := za.mk (Kd.zR (ok' := fun k => k < w8.heap.size) (Kd.zn (Kd.Zm h1) (.cells #[.int .i64 (N : Int), .slice A1 l.length c1, .int .i64 (W : Int), .slice A3 owner.length c3, .slice A4 heavy.length c4, .slice none 0 0, .slice none 0 0] 37)) (fun k hk => hk.2.2.1))
  have H38 := za.mk (Kd.zR (ok' := fun k => k < w8.heap.size) (Kd.zn (Kd.Zm h3.R) (.cells #[.int .i64 (N : Int), .slice A1 l.length c1, .int .i64 (W : Int), .slice A3 owner.length c3, .slice A4 heavy.length c4, .slice none 0 0, .slice none 0 0] 37)) (fun k hk => hk.2.2.1))
  have H48 := za.mk (Kd.zR (ok' := fun k => k < w8.heap.size) (Kd.zn (Kd.Zm h4.R) (.cells #[.int .i64 (N : Int), .slice A1 l.length c1, .int .i64 (W : Int), .slice A3 owner.length c3, .slice A4 heavy.length c4, .slice none 0 0, .slice none 0 0] 37)) (fun k hk => hk.2.2.1))
  have HOF := za.mk (qZ (F_of_CI HO.out) ((HB7.out.trans (hb.mono (by omega))).trans (qO (Below.refl w.heap.size w8) (by omega) (.cells #[.int .i64 (N : Int), .slice A1 l.length c1, .int .i64 (W : Int), .slice A3 owner.length c3, .slice A4 heavy.length c4, .slice none 0 0, .slice none 0 0] 37))) (fun _ hk => hk))
  have HB8 := za.mk ((HB7.out.trans (hb.mono (by omega))).trans (qO (Below.refl w.heap.size w8) (by omega) (.cells #[.int .i64 (N : Int), .slice A1 l.length c1, .int .i64 (W : Int), .slice A3 owner.length c3, .slice A4 heavy.length c4, .slice none 0 0, .slice none 0 0] 37)))
  have HAP := za.mk hap
  have hs8 : (w8.alloc (.cells #[.int .i64 (N : Int), .slice A1 l.length c1, .int .i64 (W : Int), .slice A3 owner.length c3, .slice A4 heavy.length c4, .slice none 0 0, .slice none 0 0] 37)).heap.size = w8.heap.size + 1 := by simp
  have hq78 : q7 < w8.heap.size := by have := qg HX7.out; omega
  have hqq : w.heap.size + 2 < w8.heap.size := by omega
  have hb3 := ze HP8.out 0
  clear HN7b h1 h3 h4 hap hb HA7 HP7 HZ7 HX7 HN7 HB7 ha0 ha1 hb0 hb1 hb2 hsz8
  have hW7s : W7.heap.size ≤ W7.heap.size := Nat.le_refl _
  go_wp2_with fail
  clear hb3
  generalize w8.alloc (.cells #[.int .i64 (N : Int), .slice A1 l.length c1, .int .i64 (W : Int), .slice A3 owner.length c3, .slice A4 heavy.length c4, .slice none 0 0, .slice none 0 0] 37) = W8 at *
  generalize w8.heap.size = q8 at *
  go_loopg [32] W (fun gg s32 wr => ∃ (i : Nat) (kv bv : Value), i ≤ W ∧ W - i ≤ gg ∧ s32 = .int .i64 i ∧ za (Below q8 W8 wr) ∧ za (wr.heap[q8]? = some (.cells #[.int .i64 (N : Int), .slice A1 l.length c1, .int .i64 (W : Int), .slice A3 owner.length c3, .slice A4 heavy.length c4, kv, bv] 37 (0, 0))) ∧ za (kL.R 22 wr (q8 + 1) (fun _ => True) kv ((List.range i).map fun (i : Nat) => kOf near owner N (i : Int))) ∧ za (kB.R 41 wr (q8 + 1) (fun _ => True) bv ((List.range i).map fun (i : Nat) => bOf near owner N W (i : Int))))
  case atStart => exact ⟨0, .slice none 0 0, .slice none 0 0, Nat.zero_le _, by omega, rfl, ⟨Below.refl _ _⟩, HY8, ⟨Kd.ZO _ _ _ _ _⟩, ⟨Kd.ZO _ _ _ _ _⟩⟩
  case round =>
   clear HY8
   generalize hw9 : wr = w9 at *
   clear hw9
   obtain ⟨i, kv, bv, hi, hgi, rfl, HB9, HY9, HK9, HM9⟩ := hrel
   by_cases hiW : i < W
   ·have hib : (i : Int) < (W : Int) := by omega
    have hs9 := HB9.out.size
    have HA9 := za.mk ((HB9.out.block _ (by omega)).trans HA8.out)
    have HP9 := za.mk ((HB9.out.block _ (by omega)).trans HP8.out)
    have HX9 := za.mk ((HB9.out.block _ hq78).trans HX8.out)
    have HN9 := za.mk (qZ HN8.out HB9.out (fun _ hk => hk))
    have HO9 := za.mk (Kd.F_mono (ok' := fun k => k < q8) (qZ HOF.out HB9.out (fun k hk => by omega)) (fun k hk => by omega))
    have ha0 := ze HA9.out 0
    have ha0' := ze (zh HA9.out (.cells #[.int .i64 (N : Int)] 3)) 0
    go_wp2_with fail
    have HQ := za.mk (heap_alloc_new w9 (.cells #[.int .i64 (N : Int)] 3))
    have HBR := za.mk (zf (Below.refl w9.heap.size w9) (.cells #[.int .i64 (N : Int)] 3))
    have hsQ : (w9.alloc (.cells #[.int .i64 (N : Int)] 3)).heap.size = w9.heap.size + 1 := by simp
    clear ha0 ha0'
    refine (Repeat_c N (by omega) N w9.heap.size _ HQ.out).mono ?_
    rintro e w1 ⟨k1, rfl, hk1, hb1⟩
    have HB1 := za.mk (HBR.out.trans (hb1.mono (by omega)))
    have HK1 := za.mk (hk1.lower (show w9.heap.size ≤ _ by omega))
    have hs1 := HB1.out.size
    clear HQ HBR hk1 hb1 hsQ
    obtain ⟨Ak, ck, e⟩ := RowI.lenSlice HK1.out
    rw [List.length_replicate] at e
    subst e
    rw [← k0At_zero near owner N i] at HK1
    have HX1 := za.mk ((HB1.out.block _ (qg HX9.out)).trans HX9.out)
    have hx3 := ze HX1.out 3
    go_wp2_with fail
    clear hx3 HX1
    have HNL := za.mk HSH.out.nl
    go_loopg [44] N (fun gg s44 w2 => ∃ j : Nat, j ≤ N ∧ N - j ≤ gg ∧ s44 = .int .i64 j ∧ za (RowI w2 w9.heap.size (.slice Ak N ck) (k0At near owner N i j)) ∧ za (Below w9.heap.size w9 w2))
    case atStart => exact ⟨0, Nat.zero_le _, by omega, rfl, HK1, HB1⟩
    case round =>
     clear HK1 HB1
     obtain ⟨j, hj, hgj, rfl, HK2, HB2⟩ := hrel
     have HQ2 := za.mk (HB2.out.mono (show q8 ≤ w9.heap.size by omega))
     have HP2 := za.mk ((HB2.out.block _ (qg HP9.out)).trans HP9.out)
     by_cases hjN : j < N
     ·have hjn : (j : Int) < (near.length : Int) := by have := HNL.out; omega
      have hjo : (j : Int) < (owner.length : Int) := by have := HOL.out; omega
      have hjk : (j : Int) < (N : Int) := by omega
      have hj0 : (0 : Int) ≤ (j : Int) := by omega
      have HCn := za.mk (Kd.F_now (qZ HN9.out HQ2.out (fun _ hk => hk)))
      have HCo := za.mk (Kd.F_now (qZ HO9.out HQ2.out (fun _ hk => hk)))
      obtain ⟨adn, A0, c0, e, hxn, _, _⟩ := rowAt HCn.out j (by have := HNL.out; omega)
      cases e
      obtain ⟨ado, e, hxo⟩ := intAt HCo.out j (by have := HOL.out; omega)
      cases e
      have hkl := k0At_length near owner N i j
      obtain ⟨adk, e, hxk⟩ := intAt HK2.out.reads'.2.2 j (by rw [hkl]; exact hjN)
      cases e
      obtain ⟨hc1, hf1, hrow, hgr⟩ := HK2.out.store j (by rw [hkl]; exact hjN) ((near.getD j []).length : Int)
      have EN := za.mk (show near.getD j [] = near[j]'(by have := HNL.out; omega) by simp [List.getD_eq_getElem?_getD, show j < near.length by have := HNL.out; omega])
      have EO := za.mk (show rd owner (j : Int) = owner[j]'(by have := HOL.out; omega) from Zv _ _ (by have := HOL.out; omega))
      rw [EN.out] at hrow hgr
      have HRW := za.mk hrow
      have HGR := za.mk hgr
      have hb1 := ze HP2.out 1
      have HST := za.mk (fun h => k0At_set near owner N i j hjN h)
      have HSK := za.mk (fun h => k0At_skip near owner N i j h)
      rw [EN.out] at HST
      generalize near[j]'(by have := HNL.out; omega) = nj at *
      generalize owner[j]'(by have := HOL.out; omega) = ov at *
      generalize (k0At near owner N (↑i) j)[j]'(by rw [hkl]; exact hjN) = kj at *
      clear hxk hrow hgr hkl
      by_cases hov : ov = i
      ·subst hov
       have hovb : ((i : Int) == (i : Int)) = true := by simp
       go_wp2_with fail
       go_roundg (N - (j + 1))
       case measure => omega
       case rel => exact ⟨j + 1, by omega, by omega, by go_num, ⟨by rw [← HST.out EO.out]; exact HRW.out⟩, ⟨HB2.out.grown HGR.out (by have := HB2.out.size; omega) (Za HK2.out)⟩⟩
      ·have hovb : (ov == (i : Int)) = false := by simpa using hov
       go_wp2_with fail
       go_roundg (N - (j + 1))
       case measure => omega
       case rel => exact ⟨j + 1, by omega, by omega, by go_num, ⟨by rw [HSK.out (by rw [EO.out]; exact hov)]; exact HK2.out⟩, HB2⟩
     ·have hje : j = N := by omega
      subst hje
      have hjn : ¬ (j : Int) < (near.length : Int) := by have := HNL.out; omega
      have hs2 := HB2.out.size
      have HA2 := za.mk ((HB2.out.block _ (qg HA9.out)).trans HA9.out)
      have HX2 := za.mk ((HB2.out.block _ (qg HX9.out)).trans HX9.out)
      have HY2 := za.mk ((HB2.out.block _ (qg HY9.out)).trans HY9.out)
      have HKK2 := za.mk (Kd.zL HK9.out HB2.out)
      have HMM2 := za.mk (Kd.zL HM9.out HB2.out)
      have hx0 := ze HX2.out 0
      have hx1 := ze HX2.out 1
      have hx2 := ze HX2.out 2
      have hx3 := ze HX2.out 3
      generalize hwr : wr = w3 at *
      clear hwr
      go_wp2_with fail
      clear hx0 hx1 hx2 hx3
      have hq13 := heap_alloc_new w3 (.cells #[.int .i64 (W : Int), .slice Ao owner.length co, .slice Ah heavy.length ch, .slice An near.length cn, .int .i64 (i : Int), .slice Ak j ck] 79)
      have HT4 := za.mk hq13
      have HB4 := za.mk (qO HB2.out hs2 (.cells #[.int .i64 (W : Int), .slice Ao owner.length co, .slice Ah heavy.length ch, .slice An near.length cn, .int .i64 (i : Int), .slice Ak j ck] 79))
      have HY4 := za.mk (zh HY2.out (.cells #[.int .i64 (W : Int), .slice Ao owner.length co, .slice Ah heavy.length ch, .slice An near.length cn, .int .i64 (i : Int), .slice Ak j ck] 79))
      have HP4 := za.mk (zh HP2.out (.cells #[.int .i64 (W : Int), .slice Ao owner.length co, .slice Ah heavy.length ch, .slice An near.length cn, .int .i64 (i : Int), .slice Ak j ck] 79))
      have HKK4 := za.mk (Kd.zn HKK2.out (.cells #[.int .i64 (W : Int), .slice Ao owner.length co, .slice Ah heavy.length ch, .slice An near.length cn, .int .i64 (i : Int), .slice Ak j ck] 79))
      have HMM4 := za.mk (Kd.zn HMM2.out (.cells #[.int .i64 (W : Int), .slice Ao owner.length co, .slice Ah heavy.length ch, .slice An near.length cn, .int .i64 (i : Int), .slice Ak j ck] 79))
      have HK4 := za.mk (RowI.alloc' HK2.out (.cells #[.int .i64 (W : Int), .slice Ao owner.length co, .slice Ah heavy.length ch, .slice An near.length cn, .int .i64 (i : Int), .slice Ak j ck] 79))
      have hs4 : (w3.alloc (.cells #[.int .i64 (W : Int), .slice Ao owner.length co, .slice Ah heavy.length ch, .slice An near.length cn, .int .i64 (i : Int), .slice Ak j ck] 79)).heap.size = w3.heap.size + 1 := by simp
      clear hq13 HY2 HKK2 HMM2 HX2 HA2 HQ2
      generalize w3.alloc (.cells #[.int .i64 (W : Int), .slice Ao owner.length co, .slice Ah heavy.length ch, .slice An near.length cn, .int .i64 (i : Int), .slice Ak j ck] 79) = w4 at *
      generalize w3.heap.size = q13 at *
      have HQ4 := za.mk (HB4.out.mono (show q8 ≤ w9.heap.size by omega))
      have hkl := k0At_length near owner j i j
      refine (settle_c W Ao co owner Ah heavy.length ch An cn near i (.slice Ak j ck) (k0At near owner j i j) w9.heap.size w4 (by rw [hkl]; exact HSH.out) (fun k => k < q8) (fun k hk e => by have := Za HK4.out k e.symm; omega) (qZ HO9.out HQ4.out (fun _ hk => hk)) (qZ HN9.out HQ4.out (fun _ hk => hk)) HK4.out).mono ?_
      rintro e w5 ⟨rfl, hset, hg⟩
      have HK5 := za.mk (show RowI w5 w9.heap.size (.slice Ak j ck) (kOf near owner j i) from hset)
      have hkol : (kOf near owner j i).length = j := (HK5.out.reads'.1).symm
      have hs5 := hg.size
      have HB5 := za.mk (HB4.out.grown hg (by omega) (Za HK4.out))
      have HT5 := za.mk ((hg.block _ (qg HT4.out) (own_ne HK4.out HT4.out (by decide))).trans HT4.out)
      have HY5 := za.mk ((hg.block _ (qg HY4.out) (own_ne HK4.out HY4.out (by decide))).trans HY4.out)
      have HP5 := za.mk ((hg.block _ (qg HP4.out) (own_ne HK4.out HP4.out (by decide))).trans HP4.out)
      have HKK5 := za.mk (Kd.zL HK9.out HB5.out)
      have HMM5 := za.mk (Kd.zL HM9.out HB5.out)
      clear hset hg HK4 HB4 HT4 HY4 HP4 HKK4 HMM4 HQ4
      have hp0 := ze HP5.out 0
      have HSL := za.mk hkol
      clear hkol hkl
      have HOM6 := za.mk (OM_made w5 w5.heap.size W (Nat.le_refl _) (by omega))
      have HT6 := za.mk (zh HT5.out (.cells (madeCells #[.slice none 0 0] W) 42))
      have HB56 := za.mk (zf (Below.refl w5.heap.size w5) (.cells (madeCells #[.slice none 0 0] W) 42))
      have ht0 := ze HT6.out 0
      have ht1 := ze HT6.out 1
      have ht2 := ze HT6.out 2
      have ht3 := ze HT6.out 3
      have ht4 := ze HT6.out 4
      have ht5 := ze HT6.out 5
      have HQ5 := za.mk (HB5.out.mono (show q8 ≤ w9.heap.size by omega))
      have FO6 := za.mk (Kd.F_mono (ok' := fun k => k < w5.heap.size) (Kd.F_alloc (qZ HO9.out HQ5.out (fun _ hk => hk)) (.cells (madeCells #[.slice none 0 0] W) 42)) (fun k hk => by omega))
      have FN6 := za.mk (Kd.F_mono (ok' := fun k => k < w5.heap.size) (Kd.F_alloc (qZ HN9.out HQ5.out (fun _ hk => hk)) (.cells (madeCells #[.slice none 0 0] W) 42)) (fun k hk => by omega))
      have FK6 := za.mk (Kd.F_alloc (F_of_R (Kd.zR (ok' := fun k => k < w5.heap.size) (Kd.Zm HK5.out.R) (fun k hk => hk.2.2.1))) (.cells (madeCells #[.slice none 0 0] W) 42))
      go_wp2_with fail
      clear hp0 ht0 ht1 ht2 ht3 ht4 ht5
      have hcall := tell_c 38 #[] (fun _ => true) (enters Try.func38 rfl rfl) W Ao co owner Ah heavy.length ch An cn near i Ak ck (kOf near owner j i) w5.heap.size W w5.heap.size (List.replicate W nilv) (List.replicate W []) (w5.alloc (.cells (madeCells #[.slice none 0 0] W) 42)) (by rw [HSL.out]; exact HSH.out) (by rw [HSL.out]; omega) HNR.out (by rw [List.length_replicate]; exact HOW.out) FO6.out FN6.out FK6.out (by rw [List.length_replicate]; exact HOM6.out) (fun i => by simp [List.getD_eq_getElem?_getD, List.getElem?_replicate]; split <;> simp) (by simp) (fun W' v _ _ => start1_c v W')
      rw [HSL.out, List.length_replicate] at hcall
      refine hcall.mono ?_
      rintro e w7 ⟨rfl, ⟨vs, hom⟩, hb7⟩
      have HB57 := za.mk (HB56.out.trans hb7)
      have HB7 := za.mk (HB5.out.trans (HB57.out.mono (by omega)))
      have hs7 := HB57.out.size
      have HY7 := za.mk ((HB57.out.block _ (qg HY5.out)).trans HY5.out)
      have HKK7 := za.mk (Kd.zL HK9.out HB7.out)
      have HMM7 := za.mk (Kd.zL HM9.out HB7.out)
      have HK7 := za.mk (show RowI w7 w9.heap.size (.slice Ak j ck) (kOf near owner j i) from Qg HK5.out HB57.out)
      obtain ⟨ik, hok⟩ := Kd.Qk HKK7.out
      obtain ⟨ib, hob⟩ := Kd.Qk HM9.out
      have HKR := za.mk (show (Kd.int .i64).R 3 w7 (q8 + 1) (fun k => some k ≠ kv.ownBlock) (.slice Ak j ck) (kOf near owner j i) from Kd.R_of_own (enc := Value.int .i64) (h1 := fun _ => rfl) (HK7.out.lower (by omega)) (fun k hk e => (Zx HK7.out hok (by decide)).elim (fun h => by rw [h] at hk; cases hk) (fun h => h (hk.trans e))))
      have HMR := za.mk (show kM.R 42 w7 (q8 + 1) (fun k => some k ≠ bv.ownBlock) (.slice (some ⟨w5.heap.size, 0, none⟩) W W) (bOf near owner j W i) from Kd.qM (OM_R (ok := fun k => some k ≠ bv.ownBlock) hom (fun k hk _ e => by have := own_lt hob k e.symm; omega)) (by omega))
      have HQ7 := za.mk (HB7.out.mono (show q8 ≤ w9.heap.size by omega))
      have HQ8 := za.mk (HB9.out.trans HQ7.out)
      clear hom hb7 hcall hok hob HOM6 HT6 HB56 HB57 FO6 FN6 FK6 HQ5 HQ7 HT5 HY5 HP5 HKK5 HMM5 HK5 HB5
      go_wp2_with fail
      have HS1 := za.mk (show (fun w' => w'.cell? ⟨q8, 5, none⟩ = some kv ∧ w'.cell? ⟨q8, 6, none⟩ = some bv) w7.drew from ⟨ze HY7.out 5, ze HY7.out 6⟩)
      refine ZC 11 (fun w' => w'.cell? ⟨q8, 5, none⟩ = some kv ∧ w'.cell? ⟨q8, 6, none⟩ = some bv) (fun _ => True) (by kernel_rfl) ?_
      have HY := za.mk (show w7.drew.heap[q8]? = _ from HY7.out)
      have HKK := za.mk (Kd.zu HKK7.out)
      have HMM := za.mk (Kd.zu HMM7.out)
      have HKr := za.mk (Kd.zu HKR.out)
      have HMr := za.mk (Kd.zu HMR.out)
      have HQ := za.mk (show Below q8 W8 w7.drew from zb HQ8.out 1)
      have hsz : q8 + 1 ≤ w7.drew.heap.size := by have := qg HY.out; omega
      clear HY7 HKK7 HMM7 HKR HMR HQ8 HK7 HB7
      generalize w7.drew = w10 at *
      generalize w5.heap.size = gb at *
      refine zN (fun _ => True) (i := 0) (v := ?_) rfl (by kernel_rfl) (fun _ _ => trivial) (Or.inl fun _ _ => trivial) (by kernel_rfl) (by kernel_rfl) (by kernel_rfl) (fun _ _ _ h => h) (by kernel_rfl) (by kernel_rfl) (Or.inl ⟨by rfl, ?_⟩) HS1.out ?_
      rotate_left; (focus (intro w hSw; (try dsimp only at hSw); go_simp; try with_reducible rfl))
      try simp only [Act.put, List.setIfInBounds_toArray, List.set_cons_zero, List.set_cons_succ, List.getElem_toArray, List.getElem_cons_zero, List.getElem_cons_succ]
      refine zN _ (i := 1) (v := ?_) rfl (by kernel_rfl) (fun _ h => h) (Or.inr (by kernel_rfl)) (by kernel_rfl) (by kernel_rfl) (by kernel_rfl) (fun _ _ _ h => h) (by kernel_rfl) (by kernel_rfl) (Or.inl ⟨by rfl, ?_⟩) HS1.out ?_
      rotate_left; (focus (intro w hSw; (try dsimp only at hSw); go_simp; try with_reducible rfl))
      try simp only [Act.put, List.setIfInBounds_toArray, List.set_cons_zero, List.set_cons_succ, List.getElem_toArray, List.getElem_cons_zero, List.getElem_cons_succ]
      refine zN (fun _ => True) (i := 2) (v := ?_) rfl (by kernel_rfl) (fun _ _ => trivial) (Or.inl fun _ _ => trivial) (by kernel_rfl) (by kernel_rfl) (by kernel_rfl) (fun _ _ _ h => h) (by kernel_rfl) (by kernel_rfl) (Or.inl ⟨by rfl, ?_⟩) HS1.out ?_
      rotate_left; (focus (intro w hSw; (try dsimp only at hSw); go_simp; try with_reducible rfl))
      try simp only [Act.put, List.setIfInBounds_toArray, List.set_cons_zero, List.set_cons_succ, List.getElem_toArray, List.getElem_cons_zero, List.getElem_cons_succ]
      refine zN (fun _ => True) (i := 5) (v := ?_) rfl (by kernel_rfl) (fun _ _ => trivial) (Or.inl fun _ _ => trivial) (by kernel_rfl) (by kernel_rfl) (by kernel_rfl) (fun _ _ _ h => h) (by kernel_rfl) (by kernel_rfl) (Or.inl ⟨by rfl, ?_⟩) HS1.out ?_
      rotate_left; (focus (intro w hSw; (try dsimp only at hSw); go_simp; try with_reducible rfl))
      try simp only [Act.put, List.setIfInBounds_toArray, List.set_cons_zero, List.set_cons_succ, List.getElem_toArray, List.getElem_cons_zero, List.getElem_cons_succ]
      refine zN _ (i := 6) (v := ?_) rfl (by kernel_rfl) (fun _ h => h) (Or.inr (by kernel_rfl)) (by kernel_rfl) (by kernel_rfl) (by kernel_rfl) (fun _ _ _ h => h) (by kernel_rfl) (by kernel_rfl) (Or.inl ⟨by rfl, ?_⟩) HS1.out ?_
      rotate_left; (focus (intro w hSw; (try dsimp only at hSw); go_simp; try with_reducible rfl))
      try simp only [Act.put, List.setIfInBounds_toArray, List.set_cons_zero, List.set_cons_succ, List.getElem_toArray, List.getElem_cons_zero, List.getElem_cons_succ]
      refine zN (fun _ => True) (i := 7) (v := ?_) rfl (by kernel_rfl) (fun _ _ => trivial) (Or.inl fun _ _ => trivial) (by kernel_rfl) (by kernel_rfl) (by kernel_rfl) (fun _ _ _ h => h) (by kernel_rfl) (by kernel_rfl) (Or.inl ⟨by rfl, ?_⟩) HS1.out ?_
      rotate_left; (focus (intro w hSw; (try dsimp only at hSw); go_simp; try with_reducible rfl))
      try simp only [Act.put, List.setIfInBounds_toArray, List.set_cons_zero, List.set_cons_succ, List.getElem_toArray, List.getElem_cons_zero, List.getElem_cons_succ]
      refine qx (rs := [3, 8]) (by kernel_rfl) (by simp) (by kernel_rfl) (by kernel_rfl) ?_
      refine List.forall_mem_cons.2 ⟨?_, List.forall_mem_cons.2 ⟨?_, by simp⟩⟩
      ·refine wpOp_step rfl (fun K hK => ?_)
       replace hK := za.mk hK
       go_simp
       have HD3 := za.mk (heap_alloc_new w10 (.cells #[.slice Ak j ck] 22))
       replace HY := za.mk (zh HY.out (.cells #[.slice Ak j ck] 22))
       replace HKK := za.mk (Kd.zn HKK.out (.cells #[.slice Ak j ck] 22))
       replace HMM := za.mk (Kd.zn HMM.out (.cells #[.slice Ak j ck] 22))
       replace HKr := za.mk (Kd.zn HKr.out (.cells #[.slice Ak j ck] 22))
       replace HMr := za.mk (Kd.zn HMr.out (.cells #[.slice Ak j ck] 22))
       replace HQ := za.mk (qO HQ.out (by omega) (.cells #[.slice Ak j ck] 22))
       replace hsz : q8 + 1 ≤ (w10.alloc (.cells #[.slice Ak j ck] 22)).heap.size := by simp; omega
       replace HS1 := za.mk (show (fun w' => w'.cell? ⟨q8, 5, none⟩ = some kv ∧ w'.cell? ⟨q8, 6, none⟩ = some bv) (w10.alloc (.cells #[.slice Ak j ck] 22)) from ⟨ze HY.out 5, ze HY.out 6⟩)
       refine hK.out _ _ ⟨HS1.out, ?_⟩
       generalize w10.alloc (.cells #[.slice Ak j ck] 22) = wa at *
       generalize w10.heap.size = b3 at *
       clear hK K
       try simp only [Act.put, List.setIfInBounds_toArray, List.set_cons_zero, List.set_cons_succ, List.getElem_toArray, List.getElem_cons_zero, List.getElem_cons_succ]
       refine qx (rs := [4, 8]) (by kernel_rfl) (by simp) (by kernel_rfl) (by kernel_rfl) ?_
       refine List.forall_mem_cons.2 ⟨?_, List.forall_mem_cons.2 ⟨?_, by simp⟩⟩
       ·refine wpOp_step rfl (fun K hK => ?_)
        replace hK := za.mk hK
        obtain ⟨ik, hok⟩ := Kd.Qk HKK.out
        refine stepR (Kd.int .i64) 34 22 3 Try.underlying34 info22 wa (by rfl) (.tmp 75) (.tmp 77) (by rfl) (q8 + 1) kv ((List.range i).map fun (i : Nat) => kOf near owner j (i : Int)) (by rfl) HKK.out b3 _ (kOf near owner j i) (by rfl) HD3.out HKr.out (by simp; omega) hsz wa (Below.refl _ _) ?_
        intro v1 w1 hr1 hbl hg hat
        replace HY := za.mk ((hg.block _ (qg HY.out) (own_ne hok HY.out (by decide))).trans HY.out)
        replace HMM := za.mk (ZG HMM.out hok (by decide) hg)
        replace HMr := za.mk (ZG HMr.out hok (by decide) hg)
        replace hsz : q8 + 1 ≤ w1.heap.size := by have := hg.size; omega
        replace HQ := za.mk (HQ.out.trans (hbl.mono (by omega)))
        replace HKK := za.mk hr1
        replace HS1 := za.mk (show (fun w' => w'.cell? ⟨q8, 5, none⟩ = some kv ∧ w'.cell? ⟨q8, 6, none⟩ = some bv) w1 from ⟨ze HY.out 5, ze HY.out 6⟩)
        clear hg hat hbl hr1 hok
        refine hK.out _ _ ⟨HS1.out, ?_⟩
        clear hK K
        try simp only [Act.put, List.setIfInBounds_toArray, List.set_cons_zero, List.set_cons_succ, List.getElem_toArray, List.getElem_cons_zero, List.getElem_cons_succ]
        refine zN (fun _ => True) (i := 10) (v := ?_) rfl (by kernel_rfl) (fun _ _ => trivial) (Or.inl fun _ _ => trivial) (by kernel_rfl) (by kernel_rfl) (by kernel_rfl) (fun _ _ _ h => h) (by kernel_rfl) (by kernel_rfl) (Or.inl ⟨by rfl, ?_⟩) HS1.out ?_
        rotate_left; (focus (intro w hSw; (try dsimp only at hSw); go_simp; try with_reducible rfl))
        try simp only [Act.put, List.setIfInBounds_toArray, List.set_cons_zero, List.set_cons_succ, List.getElem_toArray, List.getElem_cons_zero, List.getElem_cons_succ]
        refine qx (rs := [8]) (by kernel_rfl) (by simp) (by kernel_rfl) (by kernel_rfl) ?_
        refine List.forall_mem_cons.2 ⟨?_, by simp⟩
        ·refine wpOp_step rfl (fun K hK => ?_)
         replace hK := za.mk hK
         go_simp
         have HD8 := za.mk (heap_alloc_new w1 (.cells #[.slice (some ⟨gb, 0, none⟩) W W] 41))
         replace HY := za.mk (zh HY.out (.cells #[.slice (some ⟨gb, 0, none⟩) W W] 41))
         replace HKK := za.mk (Kd.zn HKK.out (.cells #[.slice (some ⟨gb, 0, none⟩) W W] 41))
         replace HMM := za.mk (Kd.zn HMM.out (.cells #[.slice (some ⟨gb, 0, none⟩) W W] 41))
         replace HMr := za.mk (Kd.zn HMr.out (.cells #[.slice (some ⟨gb, 0, none⟩) W W] 41))
         replace HQ := za.mk (qO HQ.out (by omega) (.cells #[.slice (some ⟨gb, 0, none⟩) W W] 41))
         replace hsz : q8 + 1 ≤ (w1.alloc (.cells #[.slice (some ⟨gb, 0, none⟩) W W] 41)).heap.size := by simp; omega
         replace HS1 := za.mk (show (fun w' => w'.cell? ⟨q8, 5, none⟩ = some kv ∧ w'.cell? ⟨q8, 6, none⟩ = some bv) (w1.alloc (.cells #[.slice (some ⟨gb, 0, none⟩) W W] 41)) from ⟨ze HY.out 5, ze HY.out 6⟩)
         refine hK.out _ _ ⟨HS1.out, ?_⟩
         generalize w1.alloc (.cells #[.slice (some ⟨gb, 0, none⟩) W W] 41) = wc at *
         generalize w1.heap.size = b8 at *
         clear hK K
         try simp only [Act.put, List.setIfInBounds_toArray, List.set_cons_zero, List.set_cons_succ, List.getElem_toArray, List.getElem_cons_zero, List.getElem_cons_succ]
         refine qx (rs := [9]) (by kernel_rfl) (by simp) (by kernel_rfl) (by kernel_rfl) ?_
         refine List.forall_mem_cons.2 ⟨?_, by simp⟩
         ·refine wpOp_step rfl (fun K hK => ?_)
          replace hK := za.mk hK
          obtain ⟨ib, hob⟩ := Kd.Qk HMM.out
          refine stepR kM 35 41 42 Try.underlying35 info41 wc (by rfl) (.tmp 80) (.tmp 82) (by rfl) (q8 + 1) bv ((List.range i).map fun (i : Nat) => bOf near owner j W (i : Int)) (by rfl) HMM.out b8 _ (bOf near owner j W i) (by rfl) HD8.out HMr.out (by simp; omega) hsz wc (Below.refl _ _) ?_
          intro v2 w2 hr2 hbl hg hat
          replace HY := za.mk ((hg.block _ (qg HY.out) (own_ne hob HY.out (by decide))).trans HY.out)
          replace HKK := za.mk (ZG HKK.out hob (by decide) hg)
          replace hsz : q8 + 1 ≤ w2.heap.size := by have := hg.size; omega
          replace HQ := za.mk (HQ.out.trans (hbl.mono (by omega)))
          replace HMM := za.mk hr2
          replace HS1 := za.mk (show (fun w' => w'.cell? ⟨q8, 5, none⟩ = some kv ∧ w'.cell? ⟨q8, 6, none⟩ = some bv) w2 from ⟨ze HY.out 5, ze HY.out 6⟩)
          clear hg hat hbl hr2 hob
          refine hK.out _ _ ⟨HS1.out, ?_⟩
          clear hK K
          try simp only [Act.put, List.setIfInBounds_toArray, List.set_cons_zero, List.set_cons_succ, List.getElem_toArray, List.getElem_cons_zero, List.getElem_cons_succ]
          obtain ⟨A5, c5, rfl⟩ := Kd.qC HKK.out
          obtain ⟨A6, c6, rfl⟩ := Kd.qC HMM.out
          rw [List.length_append, List.length_map, List.length_range, List.length_singleton] at HKK HMM
          have hd1 := ze HY.out 5
          have hd2 := zl HY.out 5
          have HY3 := za.mk (zX HY.out 5 (.slice A5 (i + 1) c5) rfl)
          have HKK3 := za.mk (Kd.Zd HKK.out HY.out (by decide) 5 (.slice A5 (i + 1) c5))
          have HMM3 := za.mk (Kd.Zd HMM.out HY.out (by decide) 5 (.slice A5 (i + 1) c5))
          have HQ3 := za.mk (HQ.out.setCell (p := ⟨q8, 5, none⟩) (Nat.le_refl _) (.slice A5 (i + 1) c5))
          refine Zo (by kernel_rfl) (by kernel_rfl) ?_
          refine wpOp_step rfl (fun K hK => ?_)
          replace hK := za.mk hK
          go_simp
          refine hK.out _ _ ⟨trivial, ?_⟩
          clear hd1 hd2 HY HKK HMM HQ HS1
          generalize w2.setCell ⟨q8, 5, none⟩ (.slice A5 (i + 1) c5) = w12 at *
          clear hK K
          try simp only [Act.put, List.setIfInBounds_toArray, List.set_cons_zero, List.set_cons_succ, List.getElem_toArray, List.getElem_cons_zero, List.getElem_cons_succ]
          refine wpAnyH_take (i := 12) (v := ?_) rfl (by kernel_rfl) (by kernel_rfl) (by kernel_rfl) (fun _ _ _ h => h) (Or.inl ⟨by rfl, ?_⟩) trivial ?_
          rotate_left; (focus (intro w hSw; (try dsimp only at hSw); go_simp; try with_reducible rfl))
          try simp only [Act.put, List.setIfInBounds_toArray, List.set_cons_zero, List.set_cons_succ, List.getElem_toArray, List.getElem_cons_zero, List.getElem_cons_succ]
          have hd1 := ze HY3.out 6
          have hd2 := zl HY3.out 6
          have HY4 := za.mk (zX HY3.out 6 (.slice A6 (i + 1) c6) rfl)
          have HKK4 := za.mk (Kd.Zd HKK3.out HY3.out (by decide) 6 (.slice A6 (i + 1) c6))
          have HMM4 := za.mk (Kd.Zd HMM3.out HY3.out (by decide) 6 (.slice A6 (i + 1) c6))
          have HQ4 := za.mk (HQ3.out.setCell (p := ⟨q8, 6, none⟩) (Nat.le_refl _) (.slice A6 (i + 1) c6))
          refine wpAnyH_all (rs := [13]) (by kernel_rfl) (by simp) (List.forall_mem_cons.2 ⟨?_, by simp⟩)
          refine wpOp_step rfl (fun K hK => ?_)
          replace hK := za.mk hK
          go_simp
          refine hK.out _ _ ⟨trivial, ?_⟩
          clear hd1 hd2 HY3 HKK3 HMM3 HQ3
          generalize w12.setCell ⟨q8, 6, none⟩ (.slice A6 (i + 1) c6) = w13 at *
          clear hK K
          try simp only [Act.put, List.setIfInBounds_toArray, List.set_cons_zero, List.set_cons_succ, List.getElem_toArray, List.getElem_cons_zero, List.getElem_cons_succ]
          refine wpAnyH_done (by kernel_rfl) ?_ _
          go_wp2_with fail
          go_roundg (W - (i + 1))
          case measure => omega
          case rel => exact ⟨i + 1, _, _, by omega, by omega, by go_num, HQ4, HY4, ⟨by rw [List.range_succ, List.map_append]; exact HKK4.out⟩, ⟨by rw [List.range_succ, List.map_append]; exact HMM4.out⟩⟩
       ·refine wpOp_step rfl (fun K hK => ?_)
        replace hK := za.mk hK
        go_simp
        have HD8 := za.mk (heap_alloc_new wa (.cells #[.slice (some ⟨gb, 0, none⟩) W W] 41))
        replace HD3 := za.mk (zh HD3.out (.cells #[.slice (some ⟨gb, 0, none⟩) W W] 41))
        replace HY := za.mk (zh HY.out (.cells #[.slice (some ⟨gb, 0, none⟩) W W] 41))
        replace HKK := za.mk (Kd.zn HKK.out (.cells #[.slice (some ⟨gb, 0, none⟩) W W] 41))
        replace HMM := za.mk (Kd.zn HMM.out (.cells #[.slice (some ⟨gb, 0, none⟩) W W] 41))
        replace HKr := za.mk (Kd.zn HKr.out (.cells #[.slice (some ⟨gb, 0, none⟩) W W] 41))
        replace HMr := za.mk (Kd.zn HMr.out (.cells #[.slice (some ⟨gb, 0, none⟩) W W] 41))
        replace HQ := za.mk (qO HQ.out (by omega) (.cells #[.slice (some ⟨gb, 0, none⟩) W W] 41))
        replace hsz : q8 + 1 ≤ (wa.alloc (.cells #[.slice (some ⟨gb, 0, none⟩) W W] 41)).heap.size := by simp; omega
        replace HS1 := za.mk (show (fun w' => w'.cell? ⟨q8, 5, none⟩ = some kv ∧ w'.cell? ⟨q8, 6, none⟩ = some bv) (wa.alloc (.cells #[.slice (some ⟨gb, 0, none⟩) W W] 41)) from ⟨ze HY.out 5, ze HY.out 6⟩)
        refine hK.out _ _ ⟨HS1.out, ?_⟩
        generalize wa.alloc (.cells #[.slice (some ⟨gb, 0, none⟩) W W] 41) = wb at *
        generalize wa.heap.size = b8 at *
        clear hK K
        try simp only [Act.put, List.setIfInBounds_toArray, List.set_cons_zero, List.set_cons_succ, List.getElem_toArray, List.getElem_cons_zero, List.getElem_cons_succ]
        refine qx (rs := [4]) (by kernel_rfl) (by simp) (by kernel_rfl) (by kernel_rfl) ?_
        refine List.forall_mem_cons.2 ⟨?_, by simp⟩
        ·refine wpOp_step rfl (fun K hK => ?_)
         replace hK := za.mk hK
         obtain ⟨ik, hok⟩ := Kd.Qk HKK.out
         refine stepR (Kd.int .i64) 34 22 3 Try.underlying34 info22 wb (by rfl) (.tmp 75) (.tmp 77) (by rfl) (q8 + 1) kv ((List.range i).map fun (i : Nat) => kOf near owner j (i : Int)) (by rfl) HKK.out b3 _ (kOf near owner j i) (by rfl) HD3.out HKr.out (by simp; omega) hsz wb (Below.refl _ _) ?_
         intro v1 w1 hr1 hbl hg hat
         replace HY := za.mk ((hg.block _ (qg HY.out) (own_ne hok HY.out (by decide))).trans HY.out)
         replace HMM := za.mk (ZG HMM.out hok (by decide) hg)
         replace HMr := za.mk (ZG HMr.out hok (by decide) hg)
         replace HD8 := za.mk ((hg.block _ (qg HD8.out) (own_ne hok HD8.out (by decide))).trans HD8.out)
         replace hsz : q8 + 1 ≤ w1.heap.size := by have := hg.size; omega
         replace HQ := za.mk (HQ.out.trans (hbl.mono (by omega)))
         replace HKK := za.mk hr1
         replace HS1 := za.mk (show (fun w' => w'.cell? ⟨q8, 5, none⟩ = some kv ∧ w'.cell? ⟨q8, 6, none⟩ = some bv) w1 from ⟨ze HY.out 5, ze HY.out 6⟩)
         clear hg hat hbl hr1 hok
         refine hK.out _ _ ⟨HS1.out, ?_⟩
         clear hK K
         try simp only [Act.put, List.setIfInBounds_toArray, List.set_cons_zero, List.set_cons_succ, List.getElem_toArray, List.getElem_cons_zero, List.getElem_cons_succ]
         refine zN (fun _ => True) (i := 10) (v := ?_) rfl (by kernel_rfl) (fun _ _ => trivial) (Or.inl fun _ _ => trivial) (by kernel_rfl) (by kernel_rfl) (by kernel_rfl) (fun _ _ _ h => h) (by kernel_rfl) (by kernel_rfl) (Or.inl ⟨by rfl, ?_⟩) HS1.out ?_
         rotate_left; (focus (intro w hSw; (try dsimp only at hSw); go_simp; try with_reducible rfl))
         try simp only [Act.put, List.setIfInBounds_toArray, List.set_cons_zero, List.set_cons_succ, List.getElem_toArray, List.getElem_cons_zero, List.getElem_cons_succ]
         refine qx (rs := [9]) (by kernel_rfl) (by simp) (by kernel_rfl) (by kernel_rfl) ?_
         refine List.forall_mem_cons.2 ⟨?_, by simp⟩
         ·refine wpOp_step rfl (fun K hK => ?_)
          replace hK := za.mk hK
          obtain ⟨ib, hob⟩ := Kd.Qk HMM.out
          refine stepR kM 35 41 42 Try.underlying35 info41 w1 (by rfl) (.tmp 80) (.tmp 82) (by rfl) (q8 + 1) bv ((List.range i).map fun (i : Nat) => bOf near owner j W (i : Int)) (by rfl) HMM.out b8 _ (bOf near owner j W i) (by rfl) HD8.out HMr.out (by simp; omega) hsz w1 (Below.refl _ _) ?_
          intro v2 w2 hr2 hbl hg hat
          replace HY := za.mk ((hg.block _ (qg HY.out) (own_ne hob HY.out (by decide))).trans HY.out)
          replace HKK := za.mk (ZG HKK.out hob (by decide) hg)
          replace hsz : q8 + 1 ≤ w2.heap.size := by have := hg.size; omega
          replace HQ := za.mk (HQ.out.trans (hbl.mono (by omega)))
          replace HMM := za.mk hr2
          replace HS1 := za.mk (show (fun w' => w'.cell? ⟨q8, 5, none⟩ = some kv ∧ w'.cell? ⟨q8, 6, none⟩ = some bv) w2 from ⟨ze HY.out 5, ze HY.out 6⟩)
          clear hg hat hbl hr2 hob
          refine hK.out _ _ ⟨HS1.out, ?_⟩
          clear hK K
          try simp only [Act.put, List.setIfInBounds_toArray, List.set_cons_zero, List.set_cons_succ, List.getElem_toArray, List.getElem_cons_zero, List.getElem_cons_succ]
          obtain ⟨A5, c5, rfl⟩ := Kd.qC HKK.out
          obtain ⟨A6, c6, rfl⟩ := Kd.qC HMM.out
          rw [List.length_append, List.length_map, List.length_range, List.length_singleton] at HKK HMM
          have hd1 := ze HY.out 5
          have hd2 := zl HY.out 5
          have HY3 := za.mk (zX HY.out 5 (.slice A5 (i + 1) c5) rfl)
          have HKK3 := za.mk (Kd.Zd HKK.out HY.out (by decide) 5 (.slice A5 (i + 1) c5))
          have HMM3 := za.mk (Kd.Zd HMM.out HY.out (by decide) 5 (.slice A5 (i + 1) c5))
          have HQ3 := za.mk (HQ.out.setCell (p := ⟨q8, 5, none⟩) (Nat.le_refl _) (.slice A5 (i + 1) c5))
          refine Zo (by kernel_rfl) (by kernel_rfl) ?_
          refine wpOp_step rfl (fun K hK => ?_)
          replace hK := za.mk hK
          go_simp
          refine hK.out _ _ ⟨trivial, ?_⟩
          clear hd1 hd2 HY HKK HMM HQ HS1
          generalize w2.setCell ⟨q8, 5, none⟩ (.slice A5 (i + 1) c5) = w12 at *
          clear hK K
          try simp only [Act.put, List.setIfInBounds_toArray, List.set_cons_zero, List.set_cons_succ, List.getElem_toArray, List.getElem_cons_zero, List.getElem_cons_succ]
          refine wpAnyH_take (i := 12) (v := ?_) rfl (by kernel_rfl) (by kernel_rfl) (by kernel_rfl) (fun _ _ _ h => h) (Or.inl ⟨by rfl, ?_⟩) trivial ?_
          rotate_left; (focus (intro w hSw; (try dsimp only at hSw); go_simp; try with_reducible rfl))
          try simp only [Act.put, List.setIfInBounds_toArray, List.set_cons_zero, List.set_cons_succ, List.getElem_toArray, List.getElem_cons_zero, List.getElem_cons_succ]
          have hd1 := ze HY3.out 6
          have hd2 := zl HY3.out 6
          have HY4 := za.mk (zX HY3.out 6 (.slice A6 (i + 1) c6) rfl)
          have HKK4 := za.mk (Kd.Zd HKK3.out HY3.out (by decide) 6 (.slice A6 (i + 1) c6))
          have HMM4 := za.mk (Kd.Zd HMM3.out HY3.out (by decide) 6 (.slice A6 (i + 1) c6))
          have HQ4 := za.mk (HQ3.out.setCell (p := ⟨q8, 6, none⟩) (Nat.le_refl _) (.slice A6 (i + 1) c6))
          refine wpAnyH_all (rs := [13]) (by kernel_rfl) (by simp) (List.forall_mem_cons.2 ⟨?_, by simp⟩)
          refine wpOp_step rfl (fun K hK => ?_)
          replace hK := za.mk hK
          go_simp
          refine hK.out _ _ ⟨trivial, ?_⟩
          clear hd1 hd2 HY3 HKK3 HMM3 HQ3
          generalize w12.setCell ⟨q8, 6, none⟩ (.slice A6 (i + 1) c6) = w13 at *
          clear hK K
          try simp only [Act.put, List.setIfInBounds_toArray, List.set_cons_zero, List.set_cons_succ, List.getElem_toArray, List.getElem_cons_zero, List.getElem_cons_succ]
          refine wpAnyH_done (by kernel_rfl) ?_ _
          go_wp2_with fail
          go_roundg (W - (i + 1))
          case measure => omega
          case rel => exact ⟨i + 1, _, _, by omega, by omega, by go_num, HQ4, HY4, ⟨by rw [List.range_succ, List.map_append]; exact HKK4.out⟩, ⟨by rw [List.range_succ, List.map_append]; exact HMM4.out⟩⟩
      ·refine wpOp_step rfl (fun K hK => ?_)
       replace hK := za.mk hK
       go_simp
       have HD8 := za.mk (heap_alloc_new w10 (.cells #[.slice (some ⟨gb, 0, none⟩) W W] 41))
       replace HY := za.mk (zh HY.out (.cells #[.slice (some ⟨gb, 0, none⟩) W W] 41))
       replace HKK := za.mk (Kd.zn HKK.out (.cells #[.slice (some ⟨gb, 0, none⟩) W W] 41))
       replace HMM := za.mk (Kd.zn HMM.out (.cells #[.slice (some ⟨gb, 0, none⟩) W W] 41))
       replace HKr := za.mk (Kd.zn HKr.out (.cells #[.slice (some ⟨gb, 0, none⟩) W W] 41))
       replace HMr := za.mk (Kd.zn HMr.out (.cells #[.slice (some ⟨gb, 0, none⟩) W W] 41))
       replace HQ := za.mk (qO HQ.out (by omega) (.cells #[.slice (some ⟨gb, 0, none⟩) W W] 41))
       replace hsz : q8 + 1 ≤ (w10.alloc (.cells #[.slice (some ⟨gb, 0, none⟩) W W] 41)).heap.size := by simp; omega
       replace HS1 := za.mk (show (fun w' => w'.cell? ⟨q8, 5, none⟩ = some kv ∧ w'.cell? ⟨q8, 6, none⟩ = some bv) (w10.alloc (.cells #[.slice (some ⟨gb, 0, none⟩) W W] 41)) from ⟨ze HY.out 5, ze HY.out 6⟩)
       refine hK.out _ _ ⟨HS1.out, ?_⟩
       generalize w10.alloc (.cells #[.slice (some ⟨gb, 0, none⟩) W W] 41) = wa at *
       generalize w10.heap.size = b8 at *
       clear hK K
       try simp only [Act.put, List.setIfInBounds_toArray, List.set_cons_zero, List.set_cons_succ, List.getElem_toArray, List.getElem_cons_zero, List.getElem_cons_succ]
       refine qx (rs := [3]) (by kernel_rfl) (by simp) (by kernel_rfl) (by kernel_rfl) ?_
       refine List.forall_mem_cons.2 ⟨?_, by simp⟩
       ·refine wpOp_step rfl (fun K hK => ?_)
        replace hK := za.mk hK
        go_simp
        have HD3 := za.mk (heap_alloc_new wa (.cells #[.slice Ak j ck] 22))
        replace HD8 := za.mk (zh HD8.out (.cells #[.slice Ak j ck] 22))
        replace HY := za.mk (zh HY.out (.cells #[.slice Ak j ck] 22))
        replace HKK := za.mk (Kd.zn HKK.out (.cells #[.slice Ak j ck] 22))
        replace HMM := za.mk (Kd.zn HMM.out (.cells #[.slice Ak j ck] 22))
        replace HKr := za.mk (Kd.zn HKr.out (.cells #[.slice Ak j ck] 22))
        replace HMr := za.mk (Kd.zn HMr.out (.cells #[.slice Ak j ck] 22))
        replace HQ := za.mk (qO HQ.out (by omega) (.cells #[.slice Ak j ck] 22))
        replace hsz : q8 + 1 ≤ (wa.alloc (.cells #[.slice Ak j ck] 22)).heap.size := by simp; omega
        replace HS1 := za.mk (show (fun w' => w'.cell? ⟨q8, 5, none⟩ = some kv ∧ w'.cell? ⟨q8, 6, none⟩ = some bv) (wa.alloc (.cells #[.slice Ak j ck] 22)) from ⟨ze HY.out 5, ze HY.out 6⟩)
        refine hK.out _ _ ⟨HS1.out, ?_⟩
        generalize wa.alloc (.cells #[.slice Ak j ck] 22) = wb at *
        generalize wa.heap.size = b3 at *
        clear hK K
        try simp only [Act.put, List.setIfInBounds_toArray, List.set_cons_zero, List.set_cons_succ, List.getElem_toArray, List.getElem_cons_zero, List.getElem_cons_succ]
        refine qx (rs := [4]) (by kernel_rfl) (by simp) (by kernel_rfl) (by kernel_rfl) ?_
        refine List.forall_mem_cons.2 ⟨?_, by simp⟩
        ·refine wpOp_step rfl (fun K hK => ?_)
         replace hK := za.mk hK
         obtain ⟨ik, hok⟩ := Kd.Qk HKK.out
         refine stepR (Kd.int .i64) 34 22 3 Try.underlying34 info22 wb (by rfl) (.tmp 75) (.tmp 77) (by rfl) (q8 + 1) kv ((List.range i).map fun (i : Nat) => kOf near owner j (i : Int)) (by rfl) HKK.out b3 _ (kOf near owner j i) (by rfl) HD3.out HKr.out (by simp; omega) hsz wb (Below.refl _ _) ?_
         intro v1 w1 hr1 hbl hg hat
         replace HY := za.mk ((hg.block _ (qg HY.out) (own_ne hok HY.out (by decide))).trans HY.out)
         replace HMM := za.mk (ZG HMM.out hok (by decide) hg)
         replace HMr := za.mk (ZG HMr.out hok (by decide) hg)
         replace HD8 := za.mk ((hg.block _ (qg HD8.out) (own_ne hok HD8.out (by decide))).trans HD8.out)
         replace hsz : q8 + 1 ≤ w1.heap.size := by have := hg.size; omega
         replace HQ := za.mk (HQ.out.trans (hbl.mono (by omega)))
         replace HKK := za.mk hr1
         replace HS1 := za.mk (show (fun w' => w'.cell? ⟨q8, 5, none⟩ = some kv ∧ w'.cell? ⟨q8, 6, none⟩ = some bv) w1 from ⟨ze HY.out 5, ze HY.out 6⟩)
         clear hg hat hbl hr1 hok
         refine hK.out _ _ ⟨HS1.out, ?_⟩
         clear hK K
         try simp only [Act.put, List.setIfInBounds_toArray, List.set_cons_zero, List.set_cons_succ, List.getElem_toArray, List.getElem_cons_zero, List.getElem_cons_succ]
         refine zN (fun _ => True) (i := 10) (v := ?_) rfl (by kernel_rfl) (fun _ _ => trivial) (Or.inl fun _ _ => trivial) (by kernel_rfl) (by kernel_rfl) (by kernel_rfl) (fun _ _ _ h => h) (by kernel_rfl) (by kernel_rfl) (Or.inl ⟨by rfl, ?_⟩) HS1.out ?_
         rotate_left; (focus (intro w hSw; (try dsimp only at hSw); go_simp; try with_reducible rfl))
         try simp only [Act.put, List.setIfInBounds_toArray, List.set_cons_zero, List.set_cons_succ, List.getElem_toArray, List.getElem_cons_zero, List.getElem_cons_succ]
         refine qx (rs := [9]) (by kernel_rfl) (by simp) (by kernel_rfl) (by kernel_rfl) ?_
         refine List.forall_mem_cons.2 ⟨?_, by simp⟩
         ·refine wpOp_step rfl (fun K hK => ?_)
          replace hK := za.mk hK
          obtain ⟨ib, hob⟩ := Kd.Qk HMM.out
          refine stepR kM 35 41 42 Try.underlying35 info41 w1 (by rfl) (.tmp 80) (.tmp 82) (by rfl) (q8 + 1) bv ((List.range i).map fun (i : Nat) => bOf near owner j W (i : Int)) (by rfl) HMM.out b8 _ (bOf near owner j W i) (by rfl) HD8.out HMr.out (by simp; omega) hsz w1 (Below.refl _ _) ?_
          intro v2 w2 hr2 hbl hg hat
          replace HY := za.mk ((hg.block _ (qg HY.out) (own_ne hob HY.out (by decide))).trans HY.out)
          replace HKK := za.mk (ZG HKK.out hob (by decide) hg)
          replace hsz : q8 + 1 ≤ w2.heap.size := by have := hg.size; omega
          replace HQ := za.mk (HQ.out.trans (hbl.mono (by omega)))
          replace HMM := za.mk hr2
          replace HS1 := za.mk (show (fun w' => w'.cell? ⟨q8, 5, none⟩ = some kv ∧ w'.cell? ⟨q8, 6, none⟩ = some bv) w2 from ⟨ze HY.out 5, ze HY.out 6⟩)
          clear hg hat hbl hr2 hob
          refine hK.out _ _ ⟨HS1.out, ?_⟩
          clear hK K
          try simp only [Act.put, List.setIfInBounds_toArray, List.set_cons_zero, List.set_cons_succ, List.getElem_toArray, List.getElem_cons_zero, List.getElem_cons_succ]
          obtain ⟨A5, c5, rfl⟩ := Kd.qC HKK.out
          obtain ⟨A6, c6, rfl⟩ := Kd.qC HMM.out
          rw [List.length_append, List.length_map, List.length_range, List.length_singleton] at HKK HMM
          have hd1 := ze HY.out 5
          have hd2 := zl HY.out 5
          have HY3 := za.mk (zX HY.out 5 (.slice A5 (i + 1) c5) rfl)
          have HKK3 := za.mk (Kd.Zd HKK.out HY.out (by decide) 5 (.slice A5 (i + 1) c5))
          have HMM3 := za.mk (Kd.Zd HMM.out HY.out (by decide) 5 (.slice A5 (i + 1) c5))
          have HQ3 := za.mk (HQ.out.setCell (p := ⟨q8, 5, none⟩) (Nat.le_refl _) (.slice A5 (i + 1) c5))
          refine Zo (by kernel_rfl) (by kernel_rfl) ?_
          refine wpOp_step rfl (fun K hK => ?_)
          replace hK := za.mk hK
          go_simp
          refine hK.out _ _ ⟨trivial, ?_⟩
          clear hd1 hd2 HY HKK HMM HQ HS1
          generalize w2.setCell ⟨q8, 5, none⟩ (.slice A5 (i + 1) c5) = w12 at *
          clear hK K
          try simp only [Act.put, List.setIfInBounds_toArray, List.set_cons_zero, List.set_cons_succ, List.getElem_toArray, List.getElem_cons_zero, List.getElem_cons_succ]
          refine wpAnyH_take (i := 12) (v := ?_) rfl (by kernel_rfl) (by kernel_rfl) (by kernel_rfl) (fun _ _ _ h => h) (Or.inl ⟨by rfl, ?_⟩) trivial ?_
          rotate_left; (focus (intro w hSw; (try dsimp only at hSw); go_simp; try with_reducible rfl))
          try simp only [Act.put, List.setIfInBounds_toArray, List.set_cons_zero, List.set_cons_succ, List.getElem_toArray, List.getElem_cons_zero, List.getElem_cons_succ]
          have hd1 := ze HY3.out 6
          have hd2 := zl HY3.out 6
          have HY4 := za.mk (zX HY3.out 6 (.slice A6 (i + 1) c6) rfl)
          have HKK4 := za.mk (Kd.Zd HKK3.out HY3.out (by decide) 6 (.slice A6 (i + 1) c6))
          have HMM4 := za.mk (Kd.Zd HMM3.out HY3.out (by decide) 6 (.slice A6 (i + 1) c6))
          have HQ4 := za.mk (HQ3.out.setCell (p := ⟨q8, 6, none⟩) (Nat.le_refl _) (.slice A6 (i + 1) c6))
          refine wpAnyH_all (rs := [13]) (by kernel_rfl) (by simp) (List.forall_mem_cons.2 ⟨?_, by simp⟩)
          refine wpOp_step rfl (fun K hK => ?_)
          replace hK := za.mk hK
          go_simp
          refine hK.out _ _ ⟨trivial, ?_⟩
          clear hd1 hd2 HY3 HKK3 HMM3 HQ3
          generalize w12.setCell ⟨q8, 6, none⟩ (.slice A6 (i + 1) c6) = w13 at *
          clear hK K
          try simp only [Act.put, List.setIfInBounds_toArray, List.set_cons_zero, List.set_cons_succ, List.getElem_toArray, List.getElem_cons_zero, List.getElem_cons_succ]
          refine wpAnyH_done (by kernel_rfl) ?_ _
          go_wp2_with fail
          go_roundg (W - (i + 1))
          case measure => omega
          case rel => exact ⟨i + 1, _, _, by omega, by omega, by go_num, HQ4, HY4, ⟨by rw [List.range_succ, List.map_append]; exact HKK4.out⟩, ⟨by rw [List.range_succ, List.map_append]; exact HMM4.out⟩⟩
   ·have hie : i = W := by omega
    subst hie
    have hib : ¬ (i : Int) < (i : Int) := by omega
    obtain ⟨A5, c5, rfl⟩ := Kd.qC HK9.out
    obtain ⟨A6, c6, rfl⟩ := Kd.qC HM9.out
    rw [List.length_map, List.length_range] at HK9 HM9
    have hx0 := ze HY9.out 0
    have hx1 := ze HY9.out 1
    have hx2 := ze HY9.out 2
    have hx3 := ze HY9.out 3
    have hx4 := ze HY9.out 4
    have hx5 := ze HY9.out 5
    have hx6 := ze HY9.out 6
    have HZ9 := za.mk ((HB9.out.block _ (by omega)).trans HZ8.out)
    have hy0 := ze HZ9.out 0
    have hy1 := ze HZ9.out 1
    have hy2 := ze HZ9.out 2
    have hy3 := ze HZ9.out 3
    have hy4 := ze HZ9.out 4
    have hy5 := ze HZ9.out 5
    have hy6 := ze HZ9.out 6
    have hz := fun k => zl HZ9.out k
    go_wp2_with fail
    obtain ⟨hp1, _, hp3⟩ := put7 (.int .i64 (N : Int)) (.slice A1 l.length c1) (.int .i64 (i : Int)) (.slice A3 owner.length c3) (.slice A4 heavy.length c4) (.slice A5 i c5) (.slice A6 i c6) HZ9.out
    have g1 := Kd.R_step HE8.out (fun k hk _ => HB9.out.block k hk)
    have g3 := Kd.R_step H38.out (fun k hk _ => HB9.out.block k hk)
    have g4 := Kd.R_step H48.out (fun k hk _ => HB9.out.block k hk)
    have l3 := H38.out.1
    have l4 := H48.out.1
    refine bodyPost_ret (results_ct rfl _ _ (w.heap.size + 2) 37 _ (0, 0) _ rfl hp1 Try.underlying37 rfl (by kernel_rfl)) rfl ?_
    exact ⟨_, _, _, _, _, rfl, put7g (.int .i64 (N : Int)) (.slice A1 l.length c1) (.int .i64 (i : Int)) (.slice A3 owner.length c3) (.slice A4 heavy.length c4) (.slice A5 i c5) (.slice A6 i c6) HZ9.out _ _ _ _ _ _ (by decide) (Kd.zR (Kd.qM g1 (by omega)) (fun _ _ => trivial)), RowI.of_R (put7g (.int .i64 (N : Int)) (.slice A1 l.length c1) (.int .i64 (i : Int)) (.slice A3 owner.length c3) (.slice A4 heavy.length c4) (.slice A5 i c5) (.slice A6 i c6) HZ9.out _ _ _ _ _ _ (by decide) (Kd.qM g3 (by omega))), RowI.of_R (put7g (.int .i64 (N : Int)) (.slice A1 l.length c1) (.int .i64 (i : Int)) (.slice A3 owner.length c3) (.slice A4 heavy.length c4) (.slice A5 i c5) (.slice A6 i c6) HZ9.out _ _ _ _ _ _ (by decide) (Kd.qM g4 (by omega))), HAP.out, put7g (.int .i64 (N : Int)) (.slice A1 l.length c1) (.int .i64 (i : Int)) (.slice A3 owner.length c3) (.slice A4 heavy.length c4) (.slice A5 i c5) (.slice A6 i c6) HZ9.out _ _ _ _ _ _ (by decide) (Kd.qM (Kd.zR (Kd.Zm HK9.out) (fun k hk => ⟨fun e => by have := l3 k e.symm; omega, fun e => by have := l4 k e.symm; omega⟩)) (by omega)), put7g (.int .i64 (N : Int)) (.slice A1 l.length c1) (.int .i64 (i : Int)) (.slice A3 owner.length c3) (.slice A4 heavy.length c4) (.slice A5 i c5) (.slice A6 i c6) HZ9.out _ _ _ _ _ _ (by decide) (Kd.qM HM9.out (by omega)), hp3 _ _ (HB8.out.trans (HB9.out.mono (by omega))) (by omega)⟩
end Go.Proofs.Ytebehdjjkpffjaa.QPlans
end
section
namespace Go.Proofs.Ytebehdjjkpffjaa.QPlans
open Go.RowKit Go.Proofs.YtebehdjjkpffjaaW.PrintWords Go.Proofs.YtebehdjjkpffjaaW.PrintLast Go.Proofs.YtebehdjjkpffjaaW.PrintMore
set_option maxHeartbeats 800000 in
set_option maxRecDepth 100000 in
theorem Start_bad (n : Int) (A : Option Addr) (c : Nat) (l : List S66) (wk : Int) (Ao : Option Addr) (co : Nat) (owner : List Int) (Ah : Option Addr) (ch : Nat) (heavy : List Int) (w : World)
  (hr : Kd.C k66 w A l.length l) (hc : l.length ≤ c) (ho : Kd.C (Kd.int .i64) w Ao owner.length owner) (hco : owner.length ≤ co) (hh : Kd.C (Kd.int .i64) w Ah heavy.length heavy) (hch : heavy.length ≤ ch) (h0 : Zr n l wk owner heavy ≠ 0) :
  Calls Try.prog 13 #[.agg #[.int .i64 n, .slice A l.length c], .agg #[.int .i64 wk, .slice Ao owner.length co, .slice Ah heavy.length ch]] w fun e w' =>
   e = .returned (.tuple #[.agg #[.int .i64 0, .slice none 0 0, .int .i64 0, .slice none 0 0, .slice none 0 0, .slice none 0 0, .slice none 0 0], .int .i64 (Zr n l wk owner heavy)]) ∧ Below w.heap.size w w' := by
 have HCK := za.mk (fun w h1 h2 h3 => check_c n A c l wk Ao co owner Ah ch heavy w h1 hc h2 hco h3 hch)
 have hrb : (Zr n l wk owner heavy != 0) = true := by simpa using h0
 generalize Zr n l wk owner heavy = r at *
 have HR := za.mk hr
 have HO := za.mk ho
 have HH := za.mk hh
 clear hr ho hh h0 hc hco hch
 go_enter Try.func13, Try.ntmps13
 go_wp2_with fail
 have HA := za.mk (zh (zh (heap_alloc_new w (.cells #[.int .i64 n, .slice A l.length c] 29)) (.cells #[.int .i64 wk, .slice Ao owner.length co, .slice Ah heavy.length ch] 32)) (.cells #[.int .i64 0, .slice none 0 0, .int .i64 0, .slice none 0 0, .slice none 0 0, .slice none 0 0, .slice none 0 0] 37))
 have HZ := za.mk (heap_alloc_new ((w.alloc (.cells #[.int .i64 n, .slice A l.length c] 29)).alloc (.cells #[.int .i64 wk, .slice Ao owner.length co, .slice Ah heavy.length ch] 32)) (.cells #[.int .i64 0, .slice none 0 0, .int .i64 0, .slice none 0 0, .slice none 0 0, .slice none 0 0, .slice none 0 0] 37))
 have HB := za.mk (zf (zf (zf (Below.refl w.heap.size w) (.cells #[.int .i64 n, .slice A l.length c] 29)) (.cells #[.int .i64 wk, .slice Ao owner.length co, .slice Ah heavy.length ch] 32)) (.cells #[.int .i64 0, .slice none 0 0, .int .i64 0, .slice none 0 0, .slice none 0 0, .slice none 0 0, .slice none 0 0] 37))
 rw [show ((w.alloc (.cells #[.int .i64 n, .slice A l.length c] 29)).alloc (.cells #[.int .i64 wk, .slice Ao owner.length co, .slice Ah heavy.length ch] 32)).heap.size = w.heap.size + 2 by simp] at HZ
 generalize ((w.alloc (.cells #[.int .i64 n, .slice A l.length c] 29)).alloc (.cells #[.int .i64 wk, .slice Ao owner.length co, .slice Ah heavy.length ch] 32)).alloc (.cells #[.int .i64 0, .slice none 0 0, .int .i64 0, .slice none 0 0, .slice none 0 0, .slice none 0 0, .slice none 0 0] 37) = W0 at *
 have hs0 := qg HZ.out
 refine (HCK.out W0 (Kd.qB HR.out HB.out) (Kd.qB HO.out HB.out) (Kd.qB HH.out HB.out)).mono ?_
 rintro e w1 ⟨rfl, hb⟩
 have HZ1 := za.mk ((hb.block _ (by omega)).trans HZ.out)
 have HB1 := za.mk (HB.out.trans (hb.mono (by omega)))
 clear hb HA HZ HB hs0
 have hy0 := ze HZ1.out 0
 have hy1 := ze HZ1.out 1
 have hy2 := ze HZ1.out 2
 have hy3 := ze HZ1.out 3
 have hy4 := ze HZ1.out 4
 have hy5 := ze HZ1.out 5
 have hy6 := ze HZ1.out 6
 have hz := fun k => zl HZ1.out k
 go_wp2_with fail
 obtain ⟨hp1, _, hp3⟩ := put7 (.int .i64 0) (.slice none 0 0) (.int .i64 0) (.slice none 0 0) (.slice none 0 0) (.slice none 0 0) (.slice none 0 0) HZ1.out
 refine bodyPost_ret (results_ct rfl _ _ (w.heap.size + 2) 37 _ (0, 0) _ rfl hp1 Try.underlying37 rfl (by kernel_rfl)) rfl ?_
 exact ⟨rfl, hp3 _ _ HB1.out (by omega)⟩
end Go.Proofs.Ytebehdjjkpffjaa.QPlans
end
section
namespace Go.Proofs.Ytebehdjjkpffjaa.QPlans
open Go.RowKit Go.Proofs.YtebehdjjkpffjaaW.PrintWords Go.Proofs.YtebehdjjkpffjaaW.PrintLast Go.Proofs.YtebehdjjkpffjaaW.PrintMore
def valOk (n x : Int) : Bool := decide (x ≥ 0) && decide (x ≤ n)
def msgBad (n : Int) (m : S56) : Bool := m.f2 || decide (m.f0 < 0) || decide (m.f0 ≥ n) || !valOk n m.f1
theorem val1 (g : Nat) (n x : Int) (W : World) (hb : W.heap[g]? = some (.cells #[.int .i64 n] 3 (0, 0))) :
  Calls Try.prog 50 #[.int .i64 x, .pointer (some ⟨g, 0, none⟩)] W fun e w' => e = .returned (.bool (valOk n x)) ∧ Below W.heap.size W w' := by
 have hx : W.cell? ⟨g, 0, none⟩ = some (.int .i64 n) := ze hb 0
 clear hb
 by_cases h1 : x ≥ 0
 ·have e : valOk n x = decide (x ≤ n) := by simp [valOk, h1]
  have E := za.mk e
  clear e
  have h1b : decide (x ≥ 0) = true := decide_eq_true h1
  clear h1
  go_enter Try.func50, Try.ntmps50
  go_wp2
  go_ret
  exact ⟨by rw [E.out]; rfl, Below.refl _ _⟩
 ·have e : valOk n x = false := by simp [valOk, h1]
  have E := za.mk e
  clear e
  have h1b : decide (x ≥ 0) = false := decide_eq_false h1
  clear h1
  go_enter Try.func50, Try.ntmps50
  go_wp2
  go_ret
  exact ⟨by rw [E.out]; rfl, Below.refl _ _⟩
theorem val2 (g gv : Nat) (n x : Int) (W : World) (hb : W.heap[g]? = some (.cells #[.int .i64 n] 3 (0, 0))) (hv : W.heap[gv]? = some (.cells #[.func (.func 50) #[] #[.pointer (some ⟨g, 0, none⟩)]] 81 (0, 0))) :
  Calls Try.prog 52 #[.int .i64 x, .pointer (some ⟨gv, 0, none⟩)] W fun e w' => e = .returned (.bool (!valOk n x)) ∧ Below W.heap.size W w' := by
 have hx := ze hv 0
 have hcall := val1 g n x W hb
 clear hb hv
 generalize valOk n x = b at *
 go_enter Try.func52, Try.ntmps52
 go_wp2_with fail
 refine hcall.mono ?_
 rintro e w' ⟨rfl, hb'⟩
 clear hcall
 go_wp2_with fail
 go_ret
 exact ⟨rfl, hb'⟩
theorem val3 (g gv : Nat) (n : Int) (m : S56) (W : World) (hb : W.heap[g]? = some (.cells #[.int .i64 n] 3 (0, 0))) (hv : W.heap[gv]? = some (.cells #[.func (.func 50) #[] #[.pointer (some ⟨g, 0, none⟩)]] 81 (0, 0))) :
  Calls Try.prog 54 #[encM m, .pointer (some ⟨g, 0, none⟩), .pointer (some ⟨gv, 0, none⟩)] W fun e w' => e = .returned (.bool (msgBad n m)) ∧ Below W.heap.size W w' := by
 obtain ⟨m0, m1, m2⟩ := m
 have E := za.mk (show msgBad n ⟨m0, m1, m2⟩ = (m2 || decide (m0 < 0) || decide (m0 ≥ n) || !valOk n m1) from rfl)
 generalize msgBad n ⟨m0, m1, m2⟩ = r at *
 unfold encM
 have HB := za.mk (zh hb (.cells #[.int .i64 m0, .int .i64 m1, .bool m2] 56))
 have HV := za.mk (zh hv (.cells #[.int .i64 m0, .int .i64 m1, .bool m2] 56))
 have hcall := val1 g n m1 (W.alloc (.cells #[.int .i64 m0, .int .i64 m1, .bool m2] 56)) HB.out
 have hx0 := ze HB.out 0
 have hx1 := ze HV.out 0
 have hs := za.mk (show W.heap.size ≤ (W.alloc (.cells #[.int .i64 m0, .int .i64 m1, .bool m2] 56)).heap.size by simp)
 have HA := za.mk (zf (Below.refl W.heap.size W) (.cells #[.int .i64 m0, .int .i64 m1, .bool m2] 56))
 generalize valOk n m1 = b at *
 clear hb hv
 cases m2 with
 | true =>
  have e := E.out
  simp only [Bool.true_or] at e
  subst e
  go_enter Try.func54, Try.ntmps54
  go_wp2_with fail
  go_ret
  exact ⟨rfl, HA.out⟩
 | false =>
  by_cases h1 : m0 < 0
  ·have e := E.out
   simp only [Bool.false_or, h1, decide_true, Bool.true_or] at e
   subst e
   have h1b : decide (m0 < 0) = true := decide_eq_true h1
   clear h1
   go_enter Try.func54, Try.ntmps54
   go_wp2_with fail
   go_ret
   exact ⟨rfl, HA.out⟩
  ·by_cases h2 : m0 ≥ n
   ·have e := E.out
    simp only [Bool.false_or, h1, h2, decide_true, decide_false, Bool.true_or] at e
    subst e
    have h1b : decide (m0 < 0) = false := decide_eq_false h1
    have h2b : decide (m0 ≥ n) = true := decide_eq_true h2
    clear h1 h2
    go_enter Try.func54, Try.ntmps54
    go_wp2_with fail
    go_ret
    exact ⟨rfl, HA.out⟩
   ·have e := E.out
    simp only [Bool.false_or, h1, h2, decide_false] at e
    subst e
    have h1b : decide (m0 < 0) = false := decide_eq_false h1
    have h2b : decide (m0 ≥ n) = false := decide_eq_false h2
    clear h1 h2
    go_enter Try.func54, Try.ntmps54
    go_wp2_with fail
    refine hcall.mono ?_
    rintro e w' ⟨rfl, hb'⟩
    clear hcall
    go_wp2_with fail
    go_ret
    exact ⟨rfl, HA.out.trans (hb'.mono hs.out)⟩
end Go.Proofs.Ytebehdjjkpffjaa.QPlans
end
section
namespace Go.Proofs.Ytebehdjjkpffjaa.QPlans
open Go.RowKit Go.Proofs.YtebehdjjkpffjaaW.PrintWords Go.Proofs.YtebehdjjkpffjaaW.PrintLast Go.Proofs.YtebehdjjkpffjaaW.PrintMore
def rowBad (n : Int) (r : List Int) : Bool := ((r.length : Int) != n) || r.any (fun x => !valOk n x)
def boxBad (n wk : Int) (i : Nat) (l : List (List S56)) : Bool := ((l.length : Int) != wk) || decide (((l.getD i []).length : Int) > 0) || l.any (fun b => b.any (msgBad n))
def Qi (n wk : Int) (bs : List (List (List S56))) (k : Nat) : Bool := (List.range k).any fun i => boxBad n wk i (bs.getD i [])
def validOf (n : Int) (l : List S66) (wk : Int) (owner heavy : List Int) (known : List (List Int)) (boxes : List (List (List S56))) : Bool :=
 !(Zr n l wk owner heavy != 0) && !((known.length : Int) != wk) && !((boxes.length : Int) != wk) && !(known.any (rowBad n)) && !(Qi n wk boxes boxes.length)
theorem boxesBad_succ (n wk : Int) (bs : List (List (List S56))) (k : Nat) : Qi n wk bs (k + 1) = (Qi n wk bs k || boxBad n wk k (bs.getD k [])) := by
 unfold Qi; rw [List.range_succ, List.any_append]; simp
theorem boxesBad_of (n wk : Int) (bs : List (List (List S56))) (k m : Nat) (hk : k ≤ m) (h : Qi n wk bs k = true) : Qi n wk bs m = true := by
 unfold Qi at *
 rw [List.any_eq_true] at *
 obtain ⟨i, hi, h⟩ := h
 exact ⟨i, by rw [List.mem_range] at *; omega, h⟩
theorem boxAt {w : World} {A : Option Addr} {n : Nat} {l : List (List (List S56))} (h : Kd.C kB w A n l) (k : Nat) (hk : k < l.length) :
  ∃ ad A0 c0, A = some ad ∧ w.cell? (ad.add k) = some (.slice A0 l[k].length c0) ∧ l[k].length ≤ c0 ∧ Kd.C kM w A0 l[k].length l[k] := by
 have hn : l.length = n := h.1
 obtain ⟨ad, A0, c0, e, hx, hl, hr⟩ := at_L10 h (k : Int) (by omega) (by omega)
 have e2 : Zc l (k : Int) = l[k] := by simp [Zc, List.getD_eq_getElem?_getD, hk]
 rw [e2] at hx hl hr
 exact ⟨ad, A0, c0, e, by simpa using hx, hl, hr⟩
theorem msgsAt {w : World} {A : Option Addr} {n : Nat} {l : List (List S56)} (h : Kd.C kM w A n l) (k : Nat) (hk : k < l.length) :
  ∃ ad A0 c0, A = some ad ∧ w.cell? (ad.add k) = some (.slice A0 l[k].length c0) ∧ l[k].length ≤ c0 ∧ Kd.C k56 w A0 l[k].length l[k] := by
 have hn : l.length = n := h.1
 obtain ⟨ad, A0, c0, e, hx, hl, hr⟩ := at_L9 h (k : Int) (by omega) (by omega)
 have e2 : rd_L9 l (k : Int) = l[k] := by simp [rd_L9, List.getD_eq_getElem?_getD, hk]
 rw [e2] at hx hl hr
 exact ⟨ad, A0, c0, e, by simpa using hx, hl, hr⟩
theorem store_new (w : World) (u v : Value) (t : TypeId) (h : v.oneCell' = true) : (store ⟨w.heap.size, 0, none⟩ v).run Try.prog (w.alloc (.cells #[u] t)) = .ok () (w.alloc (.cells #[v] t)) := by
 have hb := heap_alloc_new w (.cells #[u] t)
 rw [run_store Try.prog _ _ v _ h, ze hb 0]
 simp [zl hb 0, World.setCell_alloc_at]
set_option maxHeartbeats 3200000 in
set_option maxRecDepth 100000 in
theorem Valid_c (n : Int) (A : Option Addr) (c : Nat) (l : List S66) (wk : Int) (Ao : Option Addr) (co : Nat) (owner : List Int) (Ah : Option Addr) (ch : Nat) (heavy : List Int) (Ak : Option Addr) (ck : Nat) (known : List (List Int)) (Ab : Option Addr) (cb : Nat) (boxes : List (List (List S56))) (w : World)
  (hr : Kd.C k66 w A l.length l) (hc : l.length ≤ c) (ho : Kd.C (Kd.int .i64) w Ao owner.length owner) (hco : owner.length ≤ co) (hh : Kd.C (Kd.int .i64) w Ah heavy.length heavy) (hch : heavy.length ≤ ch)
  (hk : Kd.C kL w Ak known.length known) (hb : Kd.C kB w Ab boxes.length boxes) :
  Calls Try.prog 28 #[.agg #[.int .i64 n, .slice A l.length c, .int .i64 wk, .slice Ao owner.length co, .slice Ah heavy.length ch, .slice Ak known.length ck, .slice Ab boxes.length cb]] w fun e w' =>
   e = .returned (.bool (validOf n l wk owner heavy known boxes)) ∧ Below w.heap.size w w' := by
 have HCK := za.mk (fun w h1 h2 h3 => check_c n A c l wk Ao co owner Ah ch heavy w h1 hc h2 hco h3 hch)
 have HV := za.mk (show validOf n l wk owner heavy known boxes = (!(Zr n l wk owner heavy != 0) && !((known.length : Int) != wk) && !((boxes.length : Int) != wk) && !(known.any (rowBad n)) && !(Qi n wk boxes boxes.length)) from rfl)
 generalize validOf n l wk owner heavy known boxes = r at *
 generalize Zr n l wk owner heavy = er at *
 have HR := za.mk hr
 have HO := za.mk ho
 have HH := za.mk hh
 have HK := za.mk hk
 have HBX := za.mk hb
 have hkm : known.length ≤ 9223372036854775807 := hk.2.1
 have hbm : boxes.length ≤ 9223372036854775807 := hb.2.1
 have hmf : ∀ (fn : Fn) (first cap : Array Value) (w : World), (Instr.makeFunc fn first cap).run Try.prog w = .ok (.func fn first cap) w := fun _ _ _ _ => rfl
 clear hr ho hh hk hb hc hco hch
 go_enter Try.func28, Try.ntmps28
 go_wp2_with fail
 have HX := za.mk (zh (heap_alloc_new w (.cells #[.int .i64 n, .slice A l.length c, .int .i64 wk, .slice Ao owner.length co, .slice Ah heavy.length ch, .slice Ak known.length ck, .slice Ab boxes.length cb] 37)) (.cells #[.int .i64 n] 3))
 have HN := za.mk (heap_alloc_new (w.alloc (.cells #[.int .i64 n, .slice A l.length c, .int .i64 wk, .slice Ao owner.length co, .slice Ah heavy.length ch, .slice Ak known.length ck, .slice Ab boxes.length cb] 37)) (.cells #[.int .i64 n] 3))
 have HB := za.mk (zf (zf (Below.refl w.heap.size w) (.cells #[.int .i64 n, .slice A l.length c, .int .i64 wk, .slice Ao owner.length co, .slice Ah heavy.length ch, .slice Ak known.length ck, .slice Ab boxes.length cb] 37)) (.cells #[.int .i64 n] 3))
 rw [show (w.alloc (.cells #[.int .i64 n, .slice A l.length c, .int .i64 wk, .slice Ao owner.length co, .slice Ah heavy.length ch, .slice Ak known.length ck, .slice Ab boxes.length cb] 37)).heap.size = w.heap.size + 1 by simp] at HN
 generalize (w.alloc (.cells #[.int .i64 n, .slice A l.length c, .int .i64 wk, .slice Ao owner.length co, .slice Ah heavy.length ch, .slice Ak known.length ck, .slice Ab boxes.length cb] 37)).alloc (.cells #[.int .i64 n] 3) = W1 at *
 have hs1 := qg HN.out
 refine (HCK.out W1 (Kd.qB HR.out HB.out) (Kd.qB HO.out HB.out) (Kd.qB HH.out HB.out)).mono ?_
 rintro e w2 ⟨rfl, hb⟩
 have HX2 := za.mk ((hb.block _ (by omega)).trans HX.out)
 have HN2 := za.mk ((hb.block _ (by omega)).trans HN.out)
 have HB2 := za.mk (HB.out.trans (hb.mono (by omega)))
 have hs2 := hb.size
 clear HX HN HB hb
 have hx2 := ze HX2.out 2
 have hx5 := ze HX2.out 5
 have hx6 := ze HX2.out 6
 cases h1 : (er != 0) with
 | true =>
  have e := HV.out
  simp only [h1, Bool.not_true, Bool.false_and] at e
  subst e
  go_wp2_with fail
  go_ret
  exact ⟨rfl, HB2.out⟩
 | false =>
  cases h2 : ((known.length : Int) != wk) with
  | true =>
   have e := HV.out
   simp only [h1, h2, Bool.not_true, Bool.not_false, Bool.false_and, Bool.true_and] at e
   subst e
   go_wp2_with fail
   go_ret
   exact ⟨rfl, HB2.out⟩
  | false =>
   cases h3 : ((boxes.length : Int) != wk) with
   | true =>
    have e := HV.out
    simp only [h1, h2, h3, Bool.not_true, Bool.not_false, Bool.false_and, Bool.true_and] at e
    subst e
    go_wp2_with fail
    go_ret
    exact ⟨rfl, HB2.out⟩
   | false =>
    have e := HV.out
    simp only [h1, h2, h3, Bool.not_false, Bool.true_and] at e
    have HV := za.mk e
    clear e
    have hst := store_new w2 .nilFunc (.func (.func 50) #[] #[.pointer (some ⟨w.heap.size + 1, 0, none⟩)]) 81 rfl
    have HV3 := za.mk (heap_alloc_new w2 (.cells #[(.func (.func 50) #[] #[.pointer (some ⟨w.heap.size + 1, 0, none⟩)])] 81))
    have HX3 := za.mk (zh HX2.out (.cells #[(.func (.func 50) #[] #[.pointer (some ⟨w.heap.size + 1, 0, none⟩)])] 81))
    have HN3 := za.mk (zh HN2.out (.cells #[(.func (.func 50) #[] #[.pointer (some ⟨w.heap.size + 1, 0, none⟩)])] 81))
    have HB3 := za.mk (qO HB2.out (by have := HB2.out.size; omega) (.cells #[(.func (.func 50) #[] #[.pointer (some ⟨w.heap.size + 1, 0, none⟩)])] 81))
    have hx5' := ze HX3.out 5
    have hx6' := ze HX3.out 6
    have hw2 := HB2.out.size
    have hs3 : (w2.alloc (.cells #[(.func (.func 50) #[] #[.pointer (some ⟨w.heap.size + 1, 0, none⟩)])] 81)).heap.size = w2.heap.size + 1 := by simp
    go_wp2_with fail
    clear hx2 hx5 hx6 hx5' hx6' hst
    generalize w2.alloc (.cells #[(.func (.func 50) #[] #[.pointer (some ⟨w.heap.size + 1, 0, none⟩)])] 81) = W3 at *
    generalize w2.heap.size = qv at *
    clear HX2 HN2 HB2
    go_loopg [42] known.length (fun gg s42 wr => ∃ j : Nat, j ≤ known.length ∧ known.length - j ≤ gg ∧ s42 = .int .i64 j ∧ za ((known.take j).any (rowBad n) = false) ∧ za (Below W3.heap.size W3 wr))
    case atStart => exact ⟨0, Nat.zero_le _, by omega, rfl, ⟨by simp⟩, ⟨Below.refl _ _⟩⟩
    case round =>
     obtain ⟨j, hj, hgj, rfl, HA, HBW⟩ := hrel
     have HW := za.mk (HB3.out.trans (HBW.out.mono (by omega)))
     have hsw := HBW.out.size
     have HXw := za.mk ((HBW.out.block _ (by omega)).trans HX3.out)
     have HNw := za.mk ((HBW.out.block _ (by omega)).trans HN3.out)
     have HVw := za.mk ((HBW.out.block _ (by omega)).trans HV3.out)
     by_cases hjl : j < known.length
     ·have hjb : (j : Int) < (known.length : Int) := by omega
      have hj0 : (0 : Int) ≤ (j : Int) := by omega
      obtain ⟨adk, A0, c0, e, hxk, _, hck⟩ := rowAt (Kd.qB HK.out HW.out) j hjl
      cases e
      have hn0 := ze HNw.out 0
      have HT := za.mk (any_take_succ (rowBad n) known j hjl)
      have HL := za.mk (fun h => any_of_take (rowBad n) known (j + 1) h)
      have HRB := za.mk (show rowBad n known[j] = (((known[j].length : Int) != n) || known[j].any (fun x => !valOk n x)) from rfl)
      have hcall := ContainsFuncI 52 #[.pointer (some ⟨qv, 0, none⟩)] (fun x => !valOk n x) (enters Try.func52 rfl rfl) A0 c0 known[j] wr hck (fun W' x _ hb => (val2 (w.heap.size + 1) qv n x W' ((hb.block _ (by omega)).trans HNw.out) ((hb.block _ (by omega)).trans HVw.out)).mono fun e w' h => ⟨h.1, hb.trans (h.2.mono hb.size)⟩)
      have hcl : known[j].length ≤ 9223372036854775807 := hck.2.1
      have HC := za.mk hcall
      clear hcall hck
      generalize known[j] = row at *
      rw [HA.out, Bool.false_or] at HT
      cases hb1 : ((row.length : Int) != n) with
      | true =>
       have e := HRB.out
       simp only [hb1, Bool.true_or] at e
       rw [e] at HT
       have e2 := HV.out
       rw [HL.out HT.out] at e2
       simp only [Bool.not_true, Bool.false_and] at e2
       subst e2
       go_wp2_with fail
       go_ret
       exact ⟨rfl, HW.out⟩
      | false =>
       have e := HRB.out
       simp only [hb1, Bool.false_or] at e
       rw [e] at HT
       generalize hany : row.any (fun x => !valOk n x) = ba at *
       go_wp2_with fail
       refine HC.out.mono ?_
       rintro e w5 ⟨rfl, hb5⟩
       have HW5 := za.mk (HBW.out.trans (hb5.mono hsw))
       cases ba with
       | true =>
        have e2 := HV.out
        rw [HL.out HT.out] at e2
        simp only [Bool.not_true, Bool.false_and] at e2
        subst e2
        go_wp2_with fail
        go_ret
        exact ⟨rfl, HW.out.trans (hb5.mono HW.out.size)⟩
       | false =>
        go_wp2_with fail
        go_roundg (known.length - (j + 1))
        case measure => omega
        case rel => exact ⟨j + 1, by omega, by omega, by go_num, HT, HW5⟩
     ·have hje : j = known.length := by omega
      subst hje
      have hjb : ¬ ((known.length : Int) < (known.length : Int)) := by omega
      have HKA := za.mk (show known.any (rowBad n) = false by have := HA.out; rwa [List.take_length] at this)
      have e := HV.out
      rw [HKA.out] at e
      simp only [Bool.not_false, Bool.true_and] at e
      have HV' := za.mk e
      clear e HV HA HKA
      have hx6 := ze HXw.out 6
      go_wp2_with fail
      clear hx6
      generalize hwr : wr = w6 at *
      clear hwr
      go_loopg [59] boxes.length (fun gg s59 wr => ∃ j : Nat, j ≤ boxes.length ∧ boxes.length - j ≤ gg ∧ s59 = .int .i64 j ∧ za (Qi n wk boxes j = false) ∧ za (Below w6.heap.size w6 wr))
      case atStart => exact ⟨0, Nat.zero_le _, by omega, rfl, ⟨by simp [Qi]⟩, ⟨Below.refl _ _⟩⟩
      case round =>
       obtain ⟨j, hj, hgj, rfl, HA, HBX6⟩ := hrel
       have HW7 := za.mk (HW.out.trans (HBX6.out.mono HW.out.size))
       have hs7 := HBX6.out.size
       have HX7 := za.mk ((HBX6.out.block _ (by omega)).trans HXw.out)
       have HN7 := za.mk ((HBX6.out.block _ (by omega)).trans HNw.out)
       have HV7 := za.mk ((HBX6.out.block _ (by omega)).trans HVw.out)
       by_cases hjl : j < boxes.length
       ·have hjb : (j : Int) < (boxes.length : Int) := by omega
        have hj0 : (0 : Int) ≤ (j : Int) := by omega
        obtain ⟨adb, A0, c0, e, hxb, _, hcb⟩ := boxAt (Kd.qB HBX.out HW7.out) j hjl
        cases e
        have hx2 := ze HX7.out 2
        have EL := za.mk (show boxes.getD j [] = boxes[j] by simp [List.getD_eq_getElem?_getD, hjl])
        have HT := za.mk (boxesBad_succ n wk boxes j)
        rw [HA.out, Bool.false_or, EL.out] at HT
        have HL := za.mk (fun h => boxesBad_of n wk boxes (j + 1) boxes.length (by omega) h)
        have HRB := za.mk (show boxBad n wk j boxes[j] = (((boxes[j].length : Int) != wk) || decide (((boxes[j].getD j []).length : Int) > 0) || boxes[j].any (fun b => b.any (msgBad n))) from rfl)
        have hcl : boxes[j].length ≤ 9223372036854775807 := hcb.2.1
        have HCB := za.mk hcb
        have h3' : wk = (boxes.length : Int) := by simpa using (bne_eq_false_iff_eq.1 h3).symm
        have HWK := za.mk h3'
        clear h3' hcb EL
        generalize boxes[j] = row at *
        cases hb1 : ((row.length : Int) != wk) with
        | true =>
         have e := HRB.out
         simp only [hb1, Bool.true_or] at e
         rw [e] at HT
         have e2 := HV'.out
         rw [HL.out HT.out] at e2
         simp only [Bool.not_true] at e2
         subst e2
         go_wp2_with fail
         go_ret
         exact ⟨rfl, HW7.out⟩
        | false =>
         have hrw : (row.length : Int) = wk := bne_eq_false_iff_eq.1 hb1
         have hjr : j < row.length := by have := HWK.out; omega
         have hjrb : (j : Int) < (row.length : Int) := by omega
         clear hrw
         obtain ⟨adr, A1, c1, e, hx1, _, _⟩ := msgsAt HCB.out j hjr
         cases e
         have ER := za.mk (show row.getD j [] = row[j] by simp [List.getD_eq_getElem?_getD, hjr])
         rw [ER.out] at HRB
         clear ER
         generalize row[j] = mine at *
         cases hb2 : decide ((mine.length : Int) > 0) with
         | true =>
          have e := HRB.out
          simp only [hb1, hb2, Bool.true_or, Bool.or_true] at e
          rw [e] at HT
          have e2 := HV'.out
          rw [HL.out HT.out] at e2
          simp only [Bool.not_true] at e2
          subst e2
          have hm1 := of_decide_eq_true hb2
          have hm0 : 0 < mine.length := by omega
          clear hm1
          go_wp2_with fail
          go_ret
          exact ⟨rfl, HW7.out⟩
         | false =>
          have e := HRB.out
          simp only [hb1, hb2, Bool.false_or] at e
          rw [e] at HT
          clear e HRB
          have hm1 := of_decide_eq_false hb2
          have hm0 : ¬ 0 < mine.length := by omega
          clear hm1
          go_wp2_with fail
          generalize hwr : wr = w8 at *
          clear hwr
          have HRM := za.mk hcl
          clear hcl
          go_loopg [80] row.length (fun gg s80 wr => ∃ m : Nat, m ≤ row.length ∧ row.length - m ≤ gg ∧ s80 = .int .i64 m ∧ za ((row.take m).any (fun b => b.any (msgBad n)) = false) ∧ za (Below w8.heap.size w8 wr))
          case atStart => exact ⟨0, Nat.zero_le _, by omega, rfl, ⟨by simp⟩, ⟨Below.refl _ _⟩⟩
          case round =>
           obtain ⟨m, hm, hgm, rfl, HM, HB9⟩ := hrel
           have HW9 := za.mk (HW7.out.trans (HB9.out.mono HW7.out.size))
           have hs9 := HB9.out.size
           have HN9 := za.mk ((HB9.out.block _ (by omega)).trans HN7.out)
           have HV9 := za.mk ((HB9.out.block _ (by omega)).trans HV7.out)
           by_cases hml : m < row.length
           ·have hmb : (m : Int) < (row.length : Int) := by omega
            have hm00 : (0 : Int) ≤ (m : Int) := by omega
            obtain ⟨ad9, A2, c2, e, hx9, _, hc9⟩ := msgsAt (Kd.qB HCB.out HB9.out) m hml
            cases e
            have HTM := za.mk (any_take_succ (fun b => b.any (msgBad n)) row m hml)
            have HLM := za.mk (fun h => any_of_take (fun b => b.any (msgBad n)) row (m + 1) h)
            have hcall := ContainsFuncM 54 #[.pointer (some ⟨w.heap.size + 1, 0, none⟩), .pointer (some ⟨qv, 0, none⟩)] (msgBad n) (enters Try.func54 rfl rfl) A2 c2 row[m] wr hc9 (fun W' x _ hb => (val3 (w.heap.size + 1) qv n x W' ((hb.block _ (by omega)).trans HN9.out) ((hb.block _ (by omega)).trans HV9.out)).mono fun e w' h => ⟨h.1, hb.trans (h.2.mono hb.size)⟩)
            have HC := za.mk hcall
            clear hcall hc9
            generalize row[m] = bx at *
            rw [HM.out, Bool.false_or] at HTM
            generalize hany : bx.any (msgBad n) = ba at *
            go_wp2_with fail
            refine HC.out.mono ?_
            rintro e w10 ⟨rfl, hb10⟩
            have HW10 := za.mk (HB9.out.trans (hb10.mono hs9))
            cases ba with
            | true =>
             have e1 := HT.out
             rw [HLM.out (HTM.out)] at e1
             have e2 := HV'.out
             rw [HL.out e1] at e2
             simp only [Bool.not_true] at e2
             subst e2
             go_wp2_with fail
             go_ret
             exact ⟨rfl, HW9.out.trans (hb10.mono HW9.out.size)⟩
            | false =>
             go_wp2_with fail
             go_roundg (row.length - (m + 1))
             case measure => omega
             case rel => exact ⟨m + 1, by omega, by omega, (by have h := HRM.out; have e : wrap64 ((m : Int) + 1) = ((m + 1 : Nat) : Int) := (by unfold wrap64; omega); first | rw [e] | go_num), HTM, HW10⟩
           ·have hme : m = row.length := by omega
            subst hme
            have hmb : ¬ ((row.length : Int) < (row.length : Int)) := by omega
            have e1 := HT.out
            have e3 := HM.out
            rw [List.take_length] at e3
            rw [e3] at e1
            have HT9 := za.mk e1
            clear e1 e3
            go_wp2_with fail
            go_roundg (boxes.length - (j + 1))
            case measure => omega
            case rel => exact ⟨j + 1, by omega, by omega, by go_num, HT9, ⟨HBX6.out.trans (HB9.out.mono hs7)⟩⟩
       ·have hje : j = boxes.length := by omega
        subst hje
        have hjb : ¬ ((boxes.length : Int) < (boxes.length : Int)) := by omega
        have e := HV'.out
        rw [HA.out] at e
        simp only [Bool.not_false] at e
        subst e
        go_wp2_with fail
        go_ret
        exact ⟨rfl, HW7.out⟩
end Go.Proofs.Ytebehdjjkpffjaa.QPlans
end
section
namespace Go.Proofs.Ytebehdjjkpffjaa.QPlans
open Go.RowKit Go.Proofs.YtebehdjjkpffjaaW.PrintWords Go.Proofs.YtebehdjjkpffjaaW.PrintLast Go.Proofs.YtebehdjjkpffjaaW.PrintMore
attribute [local go_sem] ZT ZW Ql Qm ZI ZH ZV ZR
set_option linter.unusedVariables false
set_option linter.unusedSimpArgs false
def qE.f (a0_0 : Int) (l0_1 : List S66) (a1_0 : Int) (l1_1 : List Int) (l1_2 : List Int) : Option (Int × (List (S66)) × Int × List Int × List Int × (List (List Int)) × (List (List (List (S56)))) × Int) :=
 if l1_2.length ≤ 1000000 then (if Zr a0_0 l0_1 a1_0 l1_1 l1_2 = 0 then some (a0_0, l0_1, a1_0, l1_1, l1_2, (List.range a1_0.toNat).map (fun (i : Nat) => kOf (nbrs a0_0.toNat l0_1) l1_1 a0_0.toNat (i : Int)), (List.range a1_0.toNat).map (fun (i : Nat) => bOf (nbrs a0_0.toNat l0_1) l1_1 a0_0.toNat a1_0.toNat (i : Int)), 0) else some (0, [], 0, [], [], [], [], Zr a0_0 l0_1 a1_0 l1_1 l1_2)) else none
set_option maxHeartbeats 800000 in
theorem qE.calls (a0_0 : Int) (A0_1 : Option Addr) (c0_1 : Nat) (l0_1 : List (S66)) (a1_0 : Int) (A1_1 : Option Addr) (c1_1 : Nat) (l1_1 : List Int) (A1_2 : Option Addr) (c1_2 : Nat) (l1_2 : List Int) (r1 : Int) (r2 : List (S66)) (r3 : Int) (r4 : List Int) (r5 : List Int) (r6 : List (List Int)) (r7 : List (List (List (S56)))) (r8 : Int) (w : World) (hr0_1 : Kd.C k66 w A0_1 l0_1.length l0_1) (hc0_1 : l0_1.length ≤ c0_1) (hr1_1 : Kd.C (Kd.int .i64) w A1_1 l1_1.length l1_1) (hc1_1 : l1_1.length ≤ c1_1) (hr1_2 : Kd.C (Kd.int .i64) w A1_2 l1_2.length l1_2) (hc1_2 : l1_2.length ≤ c1_2) (h : qE.f a0_0 l0_1 a1_0 l1_1 l1_2 = some (r1, r2, r3, r4, r5, r6, r7, r8)) :
  Calls Try.prog 13 #[.agg #[.int .i64 a0_0, .slice A0_1 l0_1.length c0_1], .agg #[.int .i64 a1_0, .slice A1_1 l1_1.length c1_1, .slice A1_2 l1_2.length c1_2]] w fun e w' => ∃ v1_ v3_ v4_ v5_ v6_ : Value, e = .returned (.tuple #[.agg #[.int .i64 r1, v1_, .int .i64 r3, v3_, v4_, v5_, v6_], .int .i64 r8]) ∧ Kd.R k66 66 w' w.heap.size (fun _ => True) v1_ r2 ∧ Kd.R (Kd.int .i64) 3 w' w.heap.size (fun k_ => some k_ ≠ (v4_ : Value).ownBlock) v3_ r4 ∧ Kd.R (Kd.int .i64) 3 w' w.heap.size (fun k_ => some k_ ≠ (v3_ : Value).ownBlock) v4_ r5 ∧ Kd.R (Kd.slice 3 (Kd.int .i64)) 22 w' w.heap.size (fun k_ => some k_ ≠ (v3_ : Value).ownBlock ∧ some k_ ≠ (v4_ : Value).ownBlock) v5_ r6 ∧ Kd.R (Kd.slice 42 (Kd.slice 56 k56)) 41 w' w.heap.size (fun _ => True) v6_ r7 ∧ Below w.heap.size w w' := by
 unfold qE.f at h
 by_cases h1 : l1_2.length ≤ 1000000
 ·rw [if_pos h1] at h
  by_cases h0 : Zr a0_0 l0_1 a1_0 l1_1 l1_2 = 0
  ·rw [if_pos h0] at h
   simp only [Option.some.injEq, Prod.mk.injEq] at h
   obtain ⟨rfl, rfl, rfl, rfl, rfl, rfl, rfl, rfl⟩ := h
   refine (Start_c _ _ _ _ _ _ _ _ _ _ _ w hr0_1 hc0_1 hr1_1 hc1_1 hr1_2 hc1_2 h1 h0).mono ?_
   rintro e w' ⟨v1, v3, v4, vk, vb, rfl, g1, g3, g4, hap, gk, gb, hB⟩
   exact ⟨v1, v3, v4, vk, vb, rfl, g1, Kd.R_of_own (enc := Value.int .i64) (h1 := fun _ => rfl) g3 (fun k hk e => hap k hk e.symm), Kd.R_of_own (enc := Value.int .i64) (h1 := fun _ => rfl) g4 (fun k hk e => hap k e.symm hk), gk, gb, hB⟩
  ·rw [if_neg h0] at h
   simp only [Option.some.injEq, Prod.mk.injEq] at h
   obtain ⟨rfl, rfl, rfl, rfl, rfl, rfl, rfl, rfl⟩ := h
   refine (Start_bad _ _ _ _ _ _ _ _ _ _ _ w hr0_1 hc0_1 hr1_1 hc1_1 hr1_2 hc1_2 h0).mono ?_
   rintro e w' ⟨rfl, hB⟩
   exact ⟨.slice none 0 0, .slice none 0 0, .slice none 0 0, .slice none 0 0, .slice none 0 0, rfl, Kd.ZO _ _ _ _ _, Kd.ZO _ _ _ _ _, Kd.ZO _ _ _ _ _, Kd.ZO _ _ _ _ _, Kd.ZO _ _ _ _ _, hB⟩
 ·rw [if_neg h1] at h
  cases h
def qP.f (a0_0 : Int) (l0_1 : List S66) (a0_2 : Int) (l0_3 : List Int) (l0_4 : List Int) (l0_5 : List (List Int)) (l0_6 : List (List (List (S56)))) : Option Bool := some (validOf a0_0 l0_1 a0_2 l0_3 l0_4 l0_5 l0_6)
theorem qP.calls (a0_0 : Int) (A0_1 : Option Addr) (c0_1 : Nat) (l0_1 : List (S66)) (a0_2 : Int) (A0_3 : Option Addr) (c0_3 : Nat) (l0_3 : List Int) (A0_4 : Option Addr) (c0_4 : Nat) (l0_4 : List Int) (A0_5 : Option Addr) (c0_5 : Nat) (l0_5 : List (List Int)) (A0_6 : Option Addr) (c0_6 : Nat) (l0_6 : List (List (List (S56)))) (r : Bool) (w : World) (hr0_1 : Kd.C k66 w A0_1 l0_1.length l0_1) (hc0_1 : l0_1.length ≤ c0_1) (hr0_3 : Kd.C (Kd.int .i64) w A0_3 l0_3.length l0_3) (hc0_3 : l0_3.length ≤ c0_3) (hr0_4 : Kd.C (Kd.int .i64) w A0_4 l0_4.length l0_4) (hc0_4 : l0_4.length ≤ c0_4) (hr0_5 : Kd.C (Kd.slice 3 (Kd.int .i64)) w A0_5 l0_5.length l0_5) (hc0_5 : l0_5.length ≤ c0_5) (hr0_6 : Kd.C (Kd.slice 42 (Kd.slice 56 k56)) w A0_6 l0_6.length l0_6) (hc0_6 : l0_6.length ≤ c0_6) (h : qP.f a0_0 l0_1 a0_2 l0_3 l0_4 l0_5 l0_6 = some r) :
  Calls Try.prog 28 #[.agg #[.int .i64 a0_0, .slice A0_1 l0_1.length c0_1, .int .i64 a0_2, .slice A0_3 l0_3.length c0_3, .slice A0_4 l0_4.length c0_4, .slice A0_5 l0_5.length c0_5, .slice A0_6 l0_6.length c0_6]] w fun e w' => e = .returned (.bool r) ∧ Below w.heap.size w w' := by
 unfold qP.f at h
 injection h with h
 subst h
 exact Valid_c _ _ _ _ _ _ _ _ _ _ _ _ _ _ _ _ _ w hr0_1 hc0_1 hr0_3 hc0_3 hr0_4 hc0_4 hr0_5 hr0_6
mutual
def qm.l0 : Nat → List (S50) → List (List (List (S56))) → Int → Int → Option ((List (S50)))
 | 0, _, _, _, _ => none
 | k + 1, x3, x9, x10, x11 => if x11 < x10 then (if 0 ≤ x11 then (if x11 < (x9.length : Int) then (qm.l1 k x3 x11 x9 x10 x11 (Zc x9 x11) ((Zc x9 x11).length : Int) 0) else (none)) else (none)) else (some x3)
def qm.l1 : Nat → List (S50) → Int → List (List (List (S56))) → Int → Int → List (List (S56)) → Int → Int → Option ((List (S50)))
 | 0, _, _, _, _, _, _, _, _ => none
 | k + 1, x3, x4, x9, x10, x11, x16, x17, x18 => if x18 < x17 then (if 0 ≤ x18 then (if x18 < (x16.length : Int) then (if ((rd_L9 x16 x18).length : Int) > 0 then (if x3.length < 8796093022208 then (qm.l1 k (x3 ++ [(⟨x4, x18⟩ : S50)]) x4 x9 x10 x11 x16 x17 (wrap64 (x18 + 1))) else (none)) else (qm.l1 k x3 x4 x9 x10 x11 x16 x17 (wrap64 (x18 + 1)))) else (none)) else (none)) else (qm.l0 k x3 x9 x10 (wrap64 (x11 + 1)))
end
def qm.f (k : Nat) (a0_0 : Int) (l0_1 : List (S66)) (a0_2 : Int) (l0_3 : List Int) (l0_4 : List Int) (l0_5 : List (List Int)) (l0_6 : List (List (List (S56)))) : Option ((List (S50))) := qm.l0 k ([] : List (S50)) l0_6 (l0_6.length : Int) 0
theorem qm.qV : ∀ k, (∀ y0 y1 y2 y3, LeO (qm.l0 k y0 y1 y2 y3) (qm.l0 (k + 1) y0 y1 y2 y3)) ∧ (∀ y0 y1 y2 y3 y4 y5 y6 y7, LeO (qm.l1 k y0 y1 y2 y3 y4 y5 y6 y7) (qm.l1 (k + 1) y0 y1 y2 y3 y4 y5 y6 y7))
 | 0 => ⟨fun _ _ _ _ r h => by simp [qm.l0] at h, fun _ _ _ _ _ _ _ _ r h => by simp [qm.l1] at h⟩
 | k + 1 => by
  obtain ⟨ih0, ih1⟩ := qm.qV k
  refine ⟨?_, ?_⟩
  ·intro y0 y1 y2 y3
   unfold qm.l0
   repeat' first
   | (with_reducible exact ih0 _ _ _ _)
   | (with_reducible exact ih1 _ _ _ _ _ _ _ _)
   | (with_reducible exact LeO.refl _)
   | (with_reducible exact LeO.none _)
   | (with_reducible refine LeO.ite ?_ ?_)
   | (with_reducible refine LeO.bind ?_ (fun _ => ?_))
   | exact ih0 _ _ _ _
   | exact ih1 _ _ _ _ _ _ _ _
   | exact LeO.none _
   | refine LeO.ite ?_ ?_
   | refine LeO.bind ?_ (fun _ => ?_)
  ·intro y0 y1 y2 y3 y4 y5 y6 y7
   unfold qm.l1
   repeat' first
   | (with_reducible exact ih0 _ _ _ _)
   | (with_reducible exact ih1 _ _ _ _ _ _ _ _)
   | (with_reducible exact LeO.refl _)
   | (with_reducible exact LeO.none _)
   | (with_reducible refine LeO.ite ?_ ?_)
   | (with_reducible refine LeO.bind ?_ (fun _ => ?_))
   | exact ih0 _ _ _ _
   | exact ih1 _ _ _ _ _ _ _ _
   | exact LeO.none _
   | refine LeO.ite ?_ ?_
   | refine LeO.bind ?_ (fun _ => ?_)
theorem qm.mono : ∀ a0 a1 a2 a3 a4 a5 a6 k, LeO (qm.f k a0 a1 a2 a3 a4 a5 a6) (qm.f (k + 1) a0 a1 a2 a3 a4 a5 a6) := by
 intro a0 a1 a2 a3 a4 a5 a6 k
 obtain ⟨ih0, ih1⟩ := qm.qV k
 unfold qm.f
 repeat' first
  | (with_reducible exact ih0 _ _ _ _)
  | (with_reducible exact ih1 _ _ _ _ _ _ _ _)
  | (with_reducible exact LeO.refl _)
  | (with_reducible exact LeO.none _)
  | (with_reducible refine LeO.ite ?_ ?_)
  | (with_reducible refine LeO.bind ?_ (fun _ => ?_))
  | exact ih0 _ _ _ _
  | exact ih1 _ _ _ _ _ _ _ _
  | exact LeO.none _
  | refine LeO.ite ?_ ?_
  | refine LeO.bind ?_ (fun _ => ?_)
set_option maxHeartbeats 8000000 in
set_option maxRecDepth 100000 in
theorem qm.calls (k : Nat) (a0_0 : Int) (A0_1 : Option Addr) (c0_1 : Nat) (l0_1 : List (S66)) (a0_2 : Int) (A0_3 : Option Addr) (c0_3 : Nat) (l0_3 : List Int) (A0_4 : Option Addr) (c0_4 : Nat) (l0_4 : List Int) (A0_5 : Option Addr) (c0_5 : Nat) (l0_5 : List (List Int)) (A0_6 : Option Addr) (c0_6 : Nat) (l0_6 : List (List (List (S56)))) (r : List (S50)) (w : World) (hr0_1 : Kd.C k66 w A0_1 l0_1.length l0_1) (hc0_1 : l0_1.length ≤ c0_1) (hr0_3 : Kd.C (Kd.int .i64) w A0_3 l0_3.length l0_3) (hc0_3 : l0_3.length ≤ c0_3) (hr0_4 : Kd.C (Kd.int .i64) w A0_4 l0_4.length l0_4) (hc0_4 : l0_4.length ≤ c0_4) (hr0_5 : Kd.C (Kd.slice 3 (Kd.int .i64)) w A0_5 l0_5.length l0_5) (hc0_5 : l0_5.length ≤ c0_5) (hr0_6 : Kd.C (Kd.slice 42 (Kd.slice 56 k56)) w A0_6 l0_6.length l0_6) (hc0_6 : l0_6.length ≤ c0_6) (h : qm.f k a0_0 l0_1 a0_2 l0_3 l0_4 l0_5 l0_6 = some r) :
  Calls Try.prog 44 #[.agg #[.int .i64 a0_0, .slice A0_1 l0_1.length c0_1, .int .i64 a0_2, .slice A0_3 l0_3.length c0_3, .slice A0_4 l0_4.length c0_4, .slice A0_5 l0_5.length c0_5, .slice A0_6 l0_6.length c0_6]] w fun e w' => ∃ v0_ : Value, e = .returned (v0_) ∧ Kd.R k50 50 w' w.heap.size (fun _ => True) v0_ r ∧ Below w.heap.size w w' := by
 have hu37 := Try.underlying37
 have hu50 := Try.underlying50
 have HR0_1 := za.mk hr0_1
 have HC0_1 := za.mk hc0_1
 clear hr0_1 hc0_1
 have HR0_3 := za.mk hr0_3
 have HC0_3 := za.mk hc0_3
 clear hr0_3 hc0_3
 have HR0_4 := za.mk hr0_4
 have HC0_4 := za.mk hc0_4
 clear hr0_4 hc0_4
 have HR0_5 := za.mk hr0_5
 have HC0_5 := za.mk hc0_5
 clear hr0_5 hc0_5
 have HR0_6 := za.mk hr0_6
 have HC0_6 := za.mk hc0_6
 clear hr0_6 hc0_6
 have HB := za.mk (Below.refl w.heap.size w)
 have H : (qm.l0 k ([] : List (S50)) l0_6 (l0_6.length : Int) 0) = some r := h
 clear h
 have H' := za.mk H
 clear H
 go_enter Try.func44, Try.ntmps44
 go_wp2_with (first | ((with_reducible refine qJ (N := 1) rfl ?_); refine qI ?hg (N := 1) ?hd (cs := #[.int .i64 a0_0, .slice A0_1 l0_1.length c0_1, .int .i64 a0_2, .slice A0_3 l0_3.length c0_3, .slice A0_4 l0_4.length c0_4, .slice A0_5 l0_5.length c0_5, .slice A0_6 l0_6.length c0_6]) (t := 37) ?hr ?_; (case hd => rfl); (case hg => rfl); (case hr => first | (go_simp; done) | (go_simp; rfl)); intro gb267 hg w2 hbox hb; have n0_ := za.mk (zT (by repeat (first | (with_reducible first | exact HB.out | apply zf | apply zb | apply zg) | exact HB.out)) hb); have n1_ := za.mk (hbox); have n2_ := za.mk ((by rw [hg]; exact (zB (by repeat (first | (with_reducible first | exact HB.out | apply zf | apply zb | apply zg) | exact HB.out))) : w.heap.size ≤ gb267)); have n3_ := za.mk ((by rw [hg]; exact (zB (by repeat (first | (with_reducible first | exact HB.out | apply zf | apply zb | apply zg) | exact HB.out))) : w.heap.size ≤ gb267)); clear HB; have HB := n0_; have BK267 := n1_; have GW267 := n2_; have GE267 := n3_; clear n0_ n1_ n2_ n3_; clear hb hbox hg; have hcz3_0 : w2.cell? ⟨gb267, 0, none⟩ = some (.int .i64 a0_0) := (ze BK267.out 0).trans rfl; have hcz3_1 : w2.cell? ⟨gb267, 1, none⟩ = some (.slice A0_1 l0_1.length c0_1) := (ze BK267.out 1).trans rfl; have hcz3_2 : w2.cell? ⟨gb267, 2, none⟩ = some (.int .i64 a0_2) := (ze BK267.out 2).trans rfl; have hcz3_3 : w2.cell? ⟨gb267, 3, none⟩ = some (.slice A0_3 l0_3.length c0_3) := (ze BK267.out 3).trans rfl; have hcz3_4 : w2.cell? ⟨gb267, 4, none⟩ = some (.slice A0_4 l0_4.length c0_4) := (ze BK267.out 4).trans rfl; have hcz3_5 : w2.cell? ⟨gb267, 5, none⟩ = some (.slice A0_5 l0_5.length c0_5) := (ze BK267.out 5).trans rfl; have hcz3_6 : w2.cell? ⟨gb267, 6, none⟩ = some (.slice A0_6 l0_6.length c0_6) := (ze BK267.out 6).trans rfl; have hfz3_0 := zl BK267.out 0; have hfz3_1 := zl BK267.out 1; have hfz3_2 := zl BK267.out 2; have hfz3_3 := zl BK267.out 3; have hfz3_4 := zl BK267.out 4; have hfz3_5 := zl BK267.out 5; have hfz3_6 := zl BK267.out 6))
 go_loopg [3, 11] k (fun kq v3 v11 w' => ∃ (x3_1 : List (S50)) (x11_1 : Int), v11 = .int .i64 x11_1 ∧ za (qm.l0 kq x3_1 l0_6 (l0_6.length : Int) x11_1 = some r) ∧ za (kq ≤ k) ∧ za (Kd.R k50 50 w' w.heap.size (fun _ => True) v3 x3_1) ∧ za (w'.heap[gb267]? = some (.cells #[.int .i64 a0_0, (.slice A0_1 l0_1.length c0_1), .int .i64 a0_2, (.slice A0_3 l0_3.length c0_3), (.slice A0_4 l0_4.length c0_4), (.slice A0_5 l0_5.length c0_5), (.slice A0_6 l0_6.length c0_6)] 37 (0, 0))) ∧ za (Below w.heap.size w w'))
 case atStart => exact ⟨(([] : List (S50))), (0), (by first | rfl | (simp; done) | (simp [*]; done)), H', ⟨Nat.le_refl _⟩, ⟨by first | exact Kd.ZO _ _ _ _ _ | exact Kd.N_nil _ _ _ _ _ | exact Kd.V_nil _ _ _ _ _ | exact Kd.Q_nil _ _ _ _ _ | exact Kd.S_nil _ _ _ _ _⟩, ⟨by (with_reducible repeat (first | refine zk ?_ _ | refine zm ?_ | refine zh ?_ _)); exact BK267.out⟩, ⟨by repeat (first | (with_reducible first | exact HB.out | apply zf | apply zb | apply zg | refine zi ?_ GE267.out) | exact HB.out)⟩⟩
 case round =>
  clear H'
  try clear p2
  try clear hcz3_0
  try clear hcz3_1
  try clear hcz3_2
  try clear hcz3_3
  try clear hcz3_4
  try clear hcz3_5
  try clear hcz3_6
  try clear hfz3_0
  try clear hfz3_1
  try clear hfz3_2
  try clear hfz3_3
  try clear hfz3_4
  try clear hfz3_5
  try clear hfz3_6
  obtain ⟨x3_1, x11_1, rfl, HA, HK1, HO_3, BK267, HB⟩ := hrel
  cases gk with
  | zero => exact absurd HA.out (by simp [qm.l0])
  | succ k1 =>
   have H := HA.out
   clear HA
   simp only [qm.l0] at H
   by_cases c4 : x11_1 < (l0_6.length : Int)
   ·rw [if_pos c4] at H
    have c4b0 : decide (x11_1 < (l0_6.length : Int)) = true := decide_eq_true c4
    clear c4
    by_cases c5 : 0 ≤ x11_1
    ·rw [if_pos c5] at H
     have c5b0 : decide (0 ≤ x11_1) = true := decide_eq_true c5
     clear c5
     by_cases c6 : x11_1 < (l0_6.length : Int)
     ·rw [if_pos c6] at H
      have c6b0 : decide (x11_1 < (l0_6.length : Int)) = true := decide_eq_true c6
      clear c6
      have H' := za.mk H
      clear H
      have p268 : 0 ≤ (x11_1 : Int) := of_decide_eq_true (by first | (with_reducible assumption) | assumption)
      have q268 : x11_1 < (l0_6.length : Int) := of_decide_eq_true (by first | (with_reducible assumption) | assumption)
      obtain ⟨ad268, A268_0, c268_0, e268, hx268_0, hl268_0, hi268_0⟩ := at_L10 HR0_6.out x11_1 p268 q268
      cases e268
      replace hx268_0 := (HB.out.cell (World.block_lt_of_cell? w _ hx268_0)).trans hx268_0
      have HR268_0 := za.mk hi268_0
      have HC268_0 := za.mk hl268_0
      clear hi268_0 hl268_0
      replace p268 := eq_true p268
      replace q268 := eq_true q268
      go_wp2
      go_loopg [3, 18] k1 (fun kq v3 v18 w' => ∃ (x3_2 : List (S50)) (x18_2 : Int), v18 = .int .i64 x18_2 ∧ za (qm.l1 kq x3_2 x11_1 l0_6 (l0_6.length : Int) x11_1 (Zc l0_6 x11_1) ((Zc l0_6 x11_1).length : Int) x18_2 = some r) ∧ za (kq ≤ k1) ∧ za (Kd.R k50 50 w' w.heap.size (fun _ => True) v3 x3_2) ∧ za (w'.heap[gb267]? = some (.cells #[.int .i64 a0_0, (.slice A0_1 l0_1.length c0_1), .int .i64 a0_2, (.slice A0_3 l0_3.length c0_3), (.slice A0_4 l0_4.length c0_4), (.slice A0_5 l0_5.length c0_5), (.slice (some ad268) l0_6.length c0_6)] 37 (0, 0))) ∧ za (Below w.heap.size w w'))
      case atStart => exact ⟨(x3_1), (0), (by first | rfl | (simp; done) | (simp [*]; done)), H', ⟨Nat.le_refl _⟩, ⟨by (with_reducible repeat (first | apply Kd.zn | apply Kd.zq | apply Kd.zu)); exact HO_3.out⟩, ⟨by (with_reducible repeat (first | refine zk ?_ _ | refine zm ?_ | refine zh ?_ _)); exact BK267.out⟩, ⟨by repeat (first | (with_reducible first | exact HB.out | apply zf | apply zb | apply zg | refine zi ?_ GE267.out) | exact HB.out)⟩⟩
      case round =>
       clear H'
       try clear c2
       try clear p2
       try clear q2
       try clear hx2
       try clear c4
       try clear c4b0
       try clear c5
       try clear c5b0
       try clear c6
       try clear c6b0
       try clear hcz3_0
       try clear hcz3_1
       try clear hcz3_2
       try clear hcz3_3
       try clear hcz3_4
       try clear hcz3_5
       try clear hcz3_6
       try clear hfz3_0
       try clear hfz3_1
       try clear hfz3_2
       try clear hfz3_3
       try clear hfz3_4
       try clear hfz3_5
       try clear hfz3_6
       try clear hx268_0
       try clear p2
       try clear p268
       try clear q268
       obtain ⟨x3_2, x18_2, rfl, HA, HK2, HO_3, BK267, HB⟩ := hrel
       cases gk with
       | zero => exact absurd HA.out (by simp [qm.l1])
       | succ k2 =>
        have H := HA.out
        clear HA
        simp only [qm.l1] at H
        by_cases c7 : x18_2 < ((Zc l0_6 x11_1).length : Int)
        ·rw [if_pos c7] at H
         have c7b0 : decide (x18_2 < ((Zc l0_6 x11_1).length : Int)) = true := decide_eq_true c7
         clear c7
         by_cases c8 : 0 ≤ x18_2
         ·rw [if_pos c8] at H
          have c8b0 : decide (0 ≤ x18_2) = true := decide_eq_true c8
          clear c8
          by_cases c9 : x18_2 < ((Zc l0_6 x11_1).length : Int)
          ·rw [if_pos c9] at H
           have c9b0 : decide (x18_2 < ((Zc l0_6 x11_1).length : Int)) = true := decide_eq_true c9
           clear c9
           by_cases c10 : ((rd_L9 (Zc l0_6 x11_1) x18_2).length : Int) > 0
           ·rw [if_pos c10] at H
            have c10b0 : decide (0 < ((rd_L9 (Zc l0_6 x11_1) x18_2).length : Int)) = true := decide_eq_true c10
            have c10b1 : decide (0 < (rd_L9 (Zc l0_6 x11_1) x18_2).length) = true := decide_eq_true (by omega)
            clear c10
            by_cases c11 : x3_2.length < 8796093022208
            ·rw [if_pos c11] at H
             have LMc11 := za.mk c11
             clear c11
             obtain ⟨y270, hy270⟩ : ∃ y_ : List (S50), y_ = (x3_2 ++ [(⟨x11_1, x18_2⟩ : S50)]) := ⟨_, rfl⟩
             replace H : (qm.l1 k2 y270 x11_1 l0_6 (l0_6.length : Int) x11_1 (Zc l0_6 x11_1) ((Zc l0_6 x11_1).length : Int) (wrap64 (x18_2 + 1))) = some r := by first | (rw [hy270]; with_reducible exact H) | (have H2_ := (Option.bind_some _ _).symm.trans H; rw [hy270]; with_reducible exact H2_) | (have H2_ := (Option.bind_some _ _).symm.trans H; with_reducible exact H2_) | with_reducible exact H | (rw [hy270]; exact H) | exact H
             have Ny270 := za.mk hy270
             clear hy270
             have H' := za.mk H
             clear H
             have p269 : 0 ≤ (x18_2 : Int) := of_decide_eq_true (by first | (with_reducible assumption) | assumption)
             have q269 : x18_2 < ((Zc l0_6 x11_1).length : Int) := of_decide_eq_true (by first | (with_reducible assumption) | assumption)
             obtain ⟨ad269, A269_0, c269_0, e269, hx269_0, hl269_0, hi269_0⟩ := at_L9 HR268_0.out x18_2 p269 q269
             cases e269
             replace hx269_0 := (HB.out.cell (World.block_lt_of_cell? w _ hx269_0)).trans hx269_0
             have HR269_0 := za.mk hi269_0
             have HC269_0 := za.mk hl269_0
             clear hi269_0 hl269_0
             replace p269 := eq_true p269
             replace q269 := eq_true q269
             go_wp2_with (first | ((with_reducible refine Zb (b := .append) (xs := #[.tmp 26, .tmp 30]) rfl ?_); at_builtin; refine Kd.ZU k50 (w0 := w) w.heap.size rfl (.tmp 26) (.tmp 30) 48 50 (.agg #[(.int .i64 0), (.int .i64 0)]) 16 rfl Try.underlying48 info50 rfl (by decide) (by omega) u3 x3_2 (⟨x11_1, x18_2⟩ : S50) [.int .i64 x11_1, .int .i64 x18_2] (fun _ => True) (fun _ => False) rfl rfl ?aP (fun _ hk => hk.elim) ?aF ?aO ?aB ?aS ?aL ?_; (case aP => exact k50_mkM _ _ _ (⟨x11_1, x18_2⟩ : S50)); (case aB => exact (by repeat (first | (with_reducible first | exact HB.out | apply zf | apply zb | apply zg | refine zi ?_ GE267.out) | exact HB.out))); (case aF => exact (fun _ _ => trivial)); (case aO => exact (by (with_reducible repeat (first | apply Kd.zn | apply Kd.zq | apply Kd.zu)); exact HO_3.out)); (case aS => exact (zB (by repeat (first | (with_reducible first | exact HB.out | apply zf | apply zb | apply zg | refine zi ?_ GE267.out) | exact HB.out)))); (case aL => have := LMc11.out; omega); intro v271 w12 ho hb hg hat; rw [← Ny270.out] at ho; have n0_ := za.mk (Zp (g := gb267) (o := .cells #[.int .i64 a0_0, .slice A0_1 l0_1.length c0_1, .int .i64 a0_2, .slice A0_3 l0_3.length c0_3, .slice A0_4 l0_4.length c0_4, .slice A0_5 l0_5.length c0_5, .slice (some ad268) l0_6.length c0_6] 37 (0, 0)) (by (with_reducible repeat (first | refine zk ?_ _ | refine zm ?_ | refine zh ?_ _)); exact BK267.out) hg (Kd.R_ne HO_3.out BK267.out (by decide))); have n1_ := za.mk (hb); have n2_ := za.mk (ho); clear BK267; clear HB; clear HO_3; have BK267 := n0_; have HB := n1_; have HO272 := n2_; clear n0_ n1_ n2_; clear ho hb hg hat))
             go_roundg k2
             case measure => have := HK1.out; have := HK2.out; omega
             case rel => exact ⟨(y270), (wrap64 (x18_2 + 1)), (by first | rfl | (simp; done) | (simp [*]; done)), H', ⟨by have := HK1.out; have := HK2.out; omega⟩, ⟨by (with_reducible repeat (first | apply Kd.zn | apply Kd.zq | apply Kd.zu)); exact HO272.out⟩, ⟨by (with_reducible repeat (first | refine zk ?_ _ | refine zm ?_ | refine zh ?_ _)); exact BK267.out⟩, ⟨by repeat (first | (with_reducible first | exact HB.out | apply zf | apply zb | apply zg | refine zi ?_ GE267.out) | exact HB.out)⟩⟩
            ·rw [if_neg c11] at H
             exact absurd H (by simp)
           ·rw [if_neg c10] at H
            have c10b0 : decide (0 < ((rd_L9 (Zc l0_6 x11_1) x18_2).length : Int)) = false := decide_eq_false c10
            have c10b1 : decide (0 < (rd_L9 (Zc l0_6 x11_1) x18_2).length) = false := decide_eq_false (by omega)
            clear c10
            have H' := za.mk H
            clear H
            have p269 : 0 ≤ (x18_2 : Int) := of_decide_eq_true (by first | (with_reducible assumption) | assumption)
            have q269 : x18_2 < ((Zc l0_6 x11_1).length : Int) := of_decide_eq_true (by first | (with_reducible assumption) | assumption)
            obtain ⟨ad269, A269_0, c269_0, e269, hx269_0, hl269_0, hi269_0⟩ := at_L9 HR268_0.out x18_2 p269 q269
            cases e269
            replace hx269_0 := (HB.out.cell (World.block_lt_of_cell? w _ hx269_0)).trans hx269_0
            have HR269_0 := za.mk hi269_0
            have HC269_0 := za.mk hl269_0
            clear hi269_0 hl269_0
            replace p269 := eq_true p269
            replace q269 := eq_true q269
            go_wp2
            go_roundg k2
            case measure => have := HK1.out; have := HK2.out; omega
            case rel => exact ⟨(x3_2), (wrap64 (x18_2 + 1)), (by first | rfl | (simp; done) | (simp [*]; done)), H', ⟨by have := HK1.out; have := HK2.out; omega⟩, ⟨by (with_reducible repeat (first | apply Kd.zn | apply Kd.zq | apply Kd.zu)); exact HO_3.out⟩, ⟨by (with_reducible repeat (first | refine zk ?_ _ | refine zm ?_ | refine zh ?_ _)); exact BK267.out⟩, ⟨by repeat (first | (with_reducible first | exact HB.out | apply zf | apply zb | apply zg | refine zi ?_ GE267.out) | exact HB.out)⟩⟩
          ·rw [if_neg c9] at H
           exact absurd H (by simp)
         ·rw [if_neg c8] at H
          exact absurd H (by simp)
        ·rw [if_neg c7] at H
         have c7b0 : decide (x18_2 < ((Zc l0_6 x11_1).length : Int)) = false := decide_eq_false c7
         clear c7
         have H' := za.mk H
         clear H
         go_wp2
         go_roundg k2
         case measure => have := HK1.out; have := HK2.out; omega
         case rel => exact ⟨(x3_2), (wrap64 (x11_1 + 1)), (by first | rfl | (simp; done) | (simp [*]; done)), H', ⟨by have := HK1.out; have := HK2.out; omega⟩, ⟨by (with_reducible repeat (first | apply Kd.zn | apply Kd.zq | apply Kd.zu)); exact HO_3.out⟩, ⟨by (with_reducible repeat (first | refine zk ?_ _ | refine zm ?_ | refine zh ?_ _)); exact BK267.out⟩, ⟨by repeat (first | (with_reducible first | exact HB.out | apply zf | apply zb | apply zg | refine zi ?_ GE267.out) | exact HB.out)⟩⟩
     ·rw [if_neg c6] at H
      exact absurd H (by simp)
    ·rw [if_neg c5] at H
     exact absurd H (by simp)
   ·rw [if_neg c4] at H
    have c4b0 : decide (x11_1 < (l0_6.length : Int)) = false := decide_eq_false c4
    clear c4
    obtain rfl := Option.some.inj H
    go_wp2
    go_ret
    exact ⟨_, by first | rfl | (simp [zQ, zP] <;> rfl) | (simp [*, zQ, zP] <;> rfl), by (with_reducible repeat (first | apply Kd.zn | apply Kd.zq | apply Kd.zu)); exact HO_3.out, by repeat (first | (with_reducible first | exact HB.out | apply zf | apply zb | apply zg | refine zi ?_ GE267.out) | exact HB.out)⟩
def qW.f (k : Nat) (a0_0 : Int) (l0_1 : List (S66)) (a0_2 : Int) (l0_3 : List Int) (l0_4 : List Int) (l0_5 : List (List Int)) (l0_6 : List (List (List (S56)))) : Option ((List (S50))) := (qP.f a0_0 l0_1 a0_2 l0_3 l0_4 l0_5 l0_6).bind fun t274 => (if t274 = true then ((qm.f k a0_0 l0_1 a0_2 l0_3 l0_4 l0_5 l0_6).bind fun t275 => (some t275)) else (some ([] : List (S50))))
theorem qW.mono : ∀ a0 a1 a2 a3 a4 a5 a6 k, LeO (qW.f k a0 a1 a2 a3 a4 a5 a6) (qW.f (k + 1) a0 a1 a2 a3 a4 a5 a6) := by
 intro a0 a1 a2 a3 a4 a5 a6 k
 unfold qW.f
 repeat' first
  | (with_reducible exact qm.mono _ _ _ _ _ _ _ _)
  | (with_reducible exact LeO.refl _)
  | (with_reducible exact LeO.none _)
  | (with_reducible refine LeO.ite ?_ ?_)
  | (with_reducible refine LeO.bind ?_ (fun _ => ?_))
  | exact qm.mono _ _ _ _ _ _ _ _
  | exact LeO.none _
  | refine LeO.ite ?_ ?_
  | refine LeO.bind ?_ (fun _ => ?_)
set_option maxHeartbeats 8000000 in
set_option maxRecDepth 100000 in
theorem qW.calls (k : Nat) (a0_0 : Int) (A0_1 : Option Addr) (c0_1 : Nat) (l0_1 : List (S66)) (a0_2 : Int) (A0_3 : Option Addr) (c0_3 : Nat) (l0_3 : List Int) (A0_4 : Option Addr) (c0_4 : Nat) (l0_4 : List Int) (A0_5 : Option Addr) (c0_5 : Nat) (l0_5 : List (List Int)) (A0_6 : Option Addr) (c0_6 : Nat) (l0_6 : List (List (List (S56)))) (r : List (S50)) (w : World) (hr0_1 : Kd.C k66 w A0_1 l0_1.length l0_1) (hc0_1 : l0_1.length ≤ c0_1) (hr0_3 : Kd.C (Kd.int .i64) w A0_3 l0_3.length l0_3) (hc0_3 : l0_3.length ≤ c0_3) (hr0_4 : Kd.C (Kd.int .i64) w A0_4 l0_4.length l0_4) (hc0_4 : l0_4.length ≤ c0_4) (hr0_5 : Kd.C (Kd.slice 3 (Kd.int .i64)) w A0_5 l0_5.length l0_5) (hc0_5 : l0_5.length ≤ c0_5) (hr0_6 : Kd.C (Kd.slice 42 (Kd.slice 56 k56)) w A0_6 l0_6.length l0_6) (hc0_6 : l0_6.length ≤ c0_6) (h : qW.f k a0_0 l0_1 a0_2 l0_3 l0_4 l0_5 l0_6 = some r) :
  Calls Try.prog 18 #[.agg #[.int .i64 a0_0, .slice A0_1 l0_1.length c0_1, .int .i64 a0_2, .slice A0_3 l0_3.length c0_3, .slice A0_4 l0_4.length c0_4, .slice A0_5 l0_5.length c0_5, .slice A0_6 l0_6.length c0_6]] w fun e w' => ∃ v0_ : Value, e = .returned (v0_) ∧ Kd.R k50 50 w' w.heap.size (fun _ => True) v0_ r ∧ Below w.heap.size w w' := by
 have hu37 := Try.underlying37
 have HR0_1 := za.mk hr0_1
 have HC0_1 := za.mk hc0_1
 clear hr0_1 hc0_1
 have HR0_3 := za.mk hr0_3
 have HC0_3 := za.mk hc0_3
 clear hr0_3 hc0_3
 have HR0_4 := za.mk hr0_4
 have HC0_4 := za.mk hc0_4
 clear hr0_4 hc0_4
 have HR0_5 := za.mk hr0_5
 have HC0_5 := za.mk hc0_5
 clear hr0_5 hc0_5
 have HR0_6 := za.mk hr0_6
 have HC0_6 := za.mk hc0_6
 clear hr0_6 hc0_6
 have HB := za.mk (Below.refl w.heap.size w)
 have H : ((qP.f a0_0 l0_1 a0_2 l0_3 l0_4 l0_5 l0_6).bind fun t274 => (if t274 = true then ((qm.f k a0_0 l0_1 a0_2 l0_3 l0_4 l0_5 l0_6).bind fun t275 => (some t275)) else (some ([] : List (S50))))) = some r := h
 clear h
 replace H := Option.bind_eq_some_iff.mp H
 obtain ⟨t274, A20, H⟩ := H
 replace H : (if t274 = true then ((qm.f k a0_0 l0_1 a0_2 l0_3 l0_4 l0_5 l0_6).bind fun t275 => (some t275)) else (some ([] : List (S50)))) = some r := H
 have A2 := za.mk A20
 clear A20
 by_cases c3 : t274 = true
 ·subst c3
  have H1 : ((qm.f k a0_0 l0_1 a0_2 l0_3 l0_4 l0_5 l0_6).bind fun t275 => (some t275)) = some r := by rw [if_pos rfl] at H; exact H
  clear H
  have H := H1
  clear H1
  replace H := Option.bind_eq_some_iff.mp H
  obtain ⟨t275, A40, H⟩ := H
  replace H : (some t275) = some r := H
  have A4 := za.mk A40
  clear A40
  obtain rfl := Option.some.inj H
  go_enter Try.func18, Try.ntmps18
  go_wp2_with (first | ((with_reducible refine qJ (N := 1) rfl ?_); refine qI ?hg (N := 1) ?hd (cs := #[.int .i64 a0_0, .slice A0_1 l0_1.length c0_1, .int .i64 a0_2, .slice A0_3 l0_3.length c0_3, .slice A0_4 l0_4.length c0_4, .slice A0_5 l0_5.length c0_5, .slice A0_6 l0_6.length c0_6]) (t := 37) ?hr ?_; (case hd => rfl); (case hg => rfl); (case hr => first | (go_simp; done) | (go_simp; rfl)); intro gb273 hg w5 hbox hb; have n0_ := za.mk (zT (by repeat (first | (with_reducible first | exact HB.out | apply zf | apply zb | apply zg) | exact HB.out)) hb); have n1_ := za.mk (hbox); have n2_ := za.mk ((by rw [hg]; exact (zB (by repeat (first | (with_reducible first | exact HB.out | apply zf | apply zb | apply zg) | exact HB.out))) : w.heap.size ≤ gb273)); have n3_ := za.mk ((by rw [hg]; exact (zB (by repeat (first | (with_reducible first | exact HB.out | apply zf | apply zb | apply zg) | exact HB.out))) : w.heap.size ≤ gb273)); clear HB; have HB := n0_; have BK273 := n1_; have GW273 := n2_; have GE273 := n3_; clear n0_ n1_ n2_ n3_; clear hb hbox hg; have hcz6_0 : w5.cell? ⟨gb273, 0, none⟩ = some (.int .i64 a0_0) := (ze BK273.out 0).trans rfl; have hcz6_1 : w5.cell? ⟨gb273, 1, none⟩ = some (.slice A0_1 l0_1.length c0_1) := (ze BK273.out 1).trans rfl; have hcz6_2 : w5.cell? ⟨gb273, 2, none⟩ = some (.int .i64 a0_2) := (ze BK273.out 2).trans rfl; have hcz6_3 : w5.cell? ⟨gb273, 3, none⟩ = some (.slice A0_3 l0_3.length c0_3) := (ze BK273.out 3).trans rfl; have hcz6_4 : w5.cell? ⟨gb273, 4, none⟩ = some (.slice A0_4 l0_4.length c0_4) := (ze BK273.out 4).trans rfl; have hcz6_5 : w5.cell? ⟨gb273, 5, none⟩ = some (.slice A0_5 l0_5.length c0_5) := (ze BK273.out 5).trans rfl; have hcz6_6 : w5.cell? ⟨gb273, 6, none⟩ = some (.slice A0_6 l0_6.length c0_6) := (ze BK273.out 6).trans rfl; have hfz6_0 := zl BK273.out 0; have hfz6_1 := zl BK273.out 1; have hfz6_2 := zl BK273.out 2; have hfz6_3 := zl BK273.out 3; have hfz6_4 := zl BK273.out 4; have hfz6_5 := zl BK273.out 5; have hfz6_6 := zl BK273.out 6) | ((with_reducible refine qc (f := 28) rfl ?_); refine qU (some 4) rfl rfl Try.func28 (by kernel_rfl) rfl #[.agg #[.int .i64 a0_0, .slice A0_1 l0_1.length c0_1, .int .i64 a0_2, .slice A0_3 l0_3.length c0_3, .slice A0_4 l0_4.length c0_4, .slice A0_5 l0_5.length c0_5, .slice A0_6 l0_6.length c0_6]] rfl (by (try simp only [List.map_toArray, List.map_cons, List.map_nil]); first | done | rfl | (simp only [List.length_drop, List.length_take]; rfl)) ?_; (with_reducible refine (qP.calls a0_0 _ _ l0_1 a0_2 _ _ l0_3 _ _ l0_4 _ _ l0_5 _ _ l0_6 true _ ?side1 ?side2 ?side3 ?side4 ?side5 ?side6 ?side7 ?side8 ?side9 ?side10 A2.out).mono ?_); (case side1 => repeat (first | exact (Kd.qB HR0_1.out HB.out) | (with_reducible refine Kd.qA ?_ _) | (with_reducible refine Kd.qz ?_ _) | (with_reducible refine Kd.qF ?_))); (case side2 => exact HC0_1.out); (case side3 => repeat (first | exact (Kd.qB HR0_3.out HB.out) | (with_reducible refine Kd.qA ?_ _) | (with_reducible refine Kd.qz ?_ _) | (with_reducible refine Kd.qF ?_))); (case side4 => exact HC0_3.out); (case side5 => repeat (first | exact (Kd.qB HR0_4.out HB.out) | (with_reducible refine Kd.qA ?_ _) | (with_reducible refine Kd.qz ?_ _) | (with_reducible refine Kd.qF ?_))); (case side6 => exact HC0_4.out); (case side7 => repeat (first | exact (Kd.qB HR0_5.out HB.out) | (with_reducible refine Kd.qA ?_ _) | (with_reducible refine Kd.qz ?_ _) | (with_reducible refine Kd.qF ?_))); (case side8 => exact HC0_5.out); (case side9 => repeat (first | exact (Kd.qB HR0_6.out HB.out) | (with_reducible refine Kd.qA ?_ _) | (with_reducible refine Kd.qz ?_ _) | (with_reducible refine Kd.qF ?_))); (case side10 => exact HC0_6.out); rintro e w7 ⟨rfl, hb⟩; refine ⟨_, rfl, ?_⟩; have n0_ := za.mk (zW (g := gb273) (o := .cells #[.int .i64 a0_0, .slice A0_1 l0_1.length c0_1, .int .i64 a0_2, .slice A0_3 l0_3.length c0_3, .slice A0_4 l0_4.length c0_4, .slice A0_5 l0_5.length c0_5, .slice A0_6 l0_6.length c0_6] 37 (0, 0)) (by (with_reducible repeat (first | refine zk ?_ _ | refine zm ?_ | refine zh ?_ _)); exact BK273.out) hb); have n1_ := za.mk (zT (by repeat (first | (with_reducible first | exact HB.out | apply zf | apply zb | apply zg | refine zi ?_ GE273.out) | exact HB.out)) hb); clear BK273; clear HB; have BK273 := n0_; have HB := n1_; clear n0_ n1_; (try clear hb); (try clear hb2); (try clear hk); (try clear hi); have hcz8_0 : w7.cell? ⟨gb273, 0, none⟩ = some (.int .i64 a0_0) := (ze BK273.out 0).trans rfl; have hcz8_1 : w7.cell? ⟨gb273, 1, none⟩ = some (.slice A0_1 l0_1.length c0_1) := (ze BK273.out 1).trans rfl; have hcz8_2 : w7.cell? ⟨gb273, 2, none⟩ = some (.int .i64 a0_2) := (ze BK273.out 2).trans rfl; have hcz8_3 : w7.cell? ⟨gb273, 3, none⟩ = some (.slice A0_3 l0_3.length c0_3) := (ze BK273.out 3).trans rfl; have hcz8_4 : w7.cell? ⟨gb273, 4, none⟩ = some (.slice A0_4 l0_4.length c0_4) := (ze BK273.out 4).trans rfl; have hcz8_5 : w7.cell? ⟨gb273, 5, none⟩ = some (.slice A0_5 l0_5.length c0_5) := (ze BK273.out 5).trans rfl; have hcz8_6 : w7.cell? ⟨gb273, 6, none⟩ = some (.slice A0_6 l0_6.length c0_6) := (ze BK273.out 6).trans rfl; have hfz8_0 := zl BK273.out 0; have hfz8_1 := zl BK273.out 1; have hfz8_2 := zl BK273.out 2; have hfz8_3 := zl BK273.out 3; have hfz8_4 := zl BK273.out 4; have hfz8_5 := zl BK273.out 5; have hfz8_6 := zl BK273.out 6) | ((with_reducible refine qc (f := 44) rfl ?_); refine qU (some 7) rfl rfl Try.func44 (by kernel_rfl) rfl #[.agg #[.int .i64 a0_0, .slice A0_1 l0_1.length c0_1, .int .i64 a0_2, .slice A0_3 l0_3.length c0_3, .slice A0_4 l0_4.length c0_4, .slice A0_5 l0_5.length c0_5, .slice A0_6 l0_6.length c0_6]] rfl (by (try simp only [List.map_toArray, List.map_cons, List.map_nil]); first | done | rfl | (simp only [List.length_drop, List.length_take]; rfl)) ?_; (with_reducible refine (qm.calls k a0_0 _ _ l0_1 a0_2 _ _ l0_3 _ _ l0_4 _ _ l0_5 _ _ l0_6 t275 _ ?side1 ?side2 ?side3 ?side4 ?side5 ?side6 ?side7 ?side8 ?side9 ?side10 A4.out).mono ?_); (case side1 => repeat (first | exact (Kd.qB HR0_1.out HB.out) | (with_reducible refine Kd.qA ?_ _) | (with_reducible refine Kd.qz ?_ _) | (with_reducible refine Kd.qF ?_))); (case side2 => exact HC0_1.out); (case side3 => repeat (first | exact (Kd.qB HR0_3.out HB.out) | (with_reducible refine Kd.qA ?_ _) | (with_reducible refine Kd.qz ?_ _) | (with_reducible refine Kd.qF ?_))); (case side4 => exact HC0_3.out); (case side5 => repeat (first | exact (Kd.qB HR0_4.out HB.out) | (with_reducible refine Kd.qA ?_ _) | (with_reducible refine Kd.qz ?_ _) | (with_reducible refine Kd.qF ?_))); (case side6 => exact HC0_4.out); (case side7 => repeat (first | exact (Kd.qB HR0_5.out HB.out) | (with_reducible refine Kd.qA ?_ _) | (with_reducible refine Kd.qz ?_ _) | (with_reducible refine Kd.qF ?_))); (case side8 => exact HC0_5.out); (case side9 => repeat (first | exact (Kd.qB HR0_6.out HB.out) | (with_reducible refine Kd.qA ?_ _) | (with_reducible refine Kd.qz ?_ _) | (with_reducible refine Kd.qF ?_))); (case side10 => exact HC0_6.out); rintro e w9 ⟨v276, rfl, ho0, hb⟩; refine ⟨_, rfl, ?_⟩; have n0_ := za.mk (Kd.qM ho0 (zB (by repeat (first | (with_reducible first | exact HB.out | apply zf | apply zb | apply zg | refine zi ?_ GE273.out) | exact HB.out)))); have n1_ := za.mk (zW (g := gb273) (o := .cells #[.int .i64 a0_0, .slice A0_1 l0_1.length c0_1, .int .i64 a0_2, .slice A0_3 l0_3.length c0_3, .slice A0_4 l0_4.length c0_4, .slice A0_5 l0_5.length c0_5, .slice A0_6 l0_6.length c0_6] 37 (0, 0)) (by (with_reducible repeat (first | refine zk ?_ _ | refine zm ?_ | refine zh ?_ _)); exact BK273.out) hb); have n2_ := za.mk (zT (by repeat (first | (with_reducible first | exact HB.out | apply zf | apply zb | apply zg | refine zi ?_ GE273.out) | exact HB.out)) hb); clear BK273; clear HB; have HO277 := n0_; have BK273 := n1_; have HB := n2_; clear n0_ n1_ n2_; (try clear hb); (try clear hb2); (try clear hk); (try clear hi); (try clear ho0)))
  go_ret
  exact ⟨_, by first | rfl | (simp [zQ, zP] <;> rfl) | (simp [*, zQ, zP] <;> rfl), by (with_reducible repeat (first | apply Kd.zn | apply Kd.zq | apply Kd.zu)); exact HO277.out, by repeat (first | (with_reducible first | exact HB.out | apply zf | apply zb | apply zg | refine zi ?_ GE273.out) | exact HB.out)⟩
 ·replace c3 := Bool.eq_false_iff.mpr c3
  subst c3
  have H1 : (some ([] : List (S50))) = some r := by rw [if_neg (show ¬ (false = true) by decide)] at H; exact H
  clear H
  have H := H1
  clear H1
  obtain rfl := Option.some.inj H
  go_enter Try.func18, Try.ntmps18
  go_wp2_with (first | ((with_reducible refine qJ (N := 1) rfl ?_); refine qI ?hg (N := 1) ?hd (cs := #[.int .i64 a0_0, .slice A0_1 l0_1.length c0_1, .int .i64 a0_2, .slice A0_3 l0_3.length c0_3, .slice A0_4 l0_4.length c0_4, .slice A0_5 l0_5.length c0_5, .slice A0_6 l0_6.length c0_6]) (t := 37) ?hr ?_; (case hd => rfl); (case hg => rfl); (case hr => first | (go_simp; done) | (go_simp; rfl)); intro gb273 hg w10 hbox hb; have n0_ := za.mk (zT (by repeat (first | (with_reducible first | exact HB.out | apply zf | apply zb | apply zg) | exact HB.out)) hb); have n1_ := za.mk (hbox); have n2_ := za.mk ((by rw [hg]; exact (zB (by repeat (first | (with_reducible first | exact HB.out | apply zf | apply zb | apply zg) | exact HB.out))) : w.heap.size ≤ gb273)); have n3_ := za.mk ((by rw [hg]; exact (zB (by repeat (first | (with_reducible first | exact HB.out | apply zf | apply zb | apply zg) | exact HB.out))) : w.heap.size ≤ gb273)); clear HB; have HB := n0_; have BK273 := n1_; have GW273 := n2_; have GE273 := n3_; clear n0_ n1_ n2_ n3_; clear hb hbox hg; have hcz11_0 : w10.cell? ⟨gb273, 0, none⟩ = some (.int .i64 a0_0) := (ze BK273.out 0).trans rfl; have hcz11_1 : w10.cell? ⟨gb273, 1, none⟩ = some (.slice A0_1 l0_1.length c0_1) := (ze BK273.out 1).trans rfl; have hcz11_2 : w10.cell? ⟨gb273, 2, none⟩ = some (.int .i64 a0_2) := (ze BK273.out 2).trans rfl; have hcz11_3 : w10.cell? ⟨gb273, 3, none⟩ = some (.slice A0_3 l0_3.length c0_3) := (ze BK273.out 3).trans rfl; have hcz11_4 : w10.cell? ⟨gb273, 4, none⟩ = some (.slice A0_4 l0_4.length c0_4) := (ze BK273.out 4).trans rfl; have hcz11_5 : w10.cell? ⟨gb273, 5, none⟩ = some (.slice A0_5 l0_5.length c0_5) := (ze BK273.out 5).trans rfl; have hcz11_6 : w10.cell? ⟨gb273, 6, none⟩ = some (.slice A0_6 l0_6.length c0_6) := (ze BK273.out 6).trans rfl; have hfz11_0 := zl BK273.out 0; have hfz11_1 := zl BK273.out 1; have hfz11_2 := zl BK273.out 2; have hfz11_3 := zl BK273.out 3; have hfz11_4 := zl BK273.out 4; have hfz11_5 := zl BK273.out 5; have hfz11_6 := zl BK273.out 6) | ((with_reducible refine qc (f := 28) rfl ?_); refine qU (some 4) rfl rfl Try.func28 (by kernel_rfl) rfl #[.agg #[.int .i64 a0_0, .slice A0_1 l0_1.length c0_1, .int .i64 a0_2, .slice A0_3 l0_3.length c0_3, .slice A0_4 l0_4.length c0_4, .slice A0_5 l0_5.length c0_5, .slice A0_6 l0_6.length c0_6]] rfl (by (try simp only [List.map_toArray, List.map_cons, List.map_nil]); first | done | rfl | (simp only [List.length_drop, List.length_take]; rfl)) ?_; (with_reducible refine (qP.calls a0_0 _ _ l0_1 a0_2 _ _ l0_3 _ _ l0_4 _ _ l0_5 _ _ l0_6 false _ ?side1 ?side2 ?side3 ?side4 ?side5 ?side6 ?side7 ?side8 ?side9 ?side10 A2.out).mono ?_); (case side1 => repeat (first | exact (Kd.qB HR0_1.out HB.out) | (with_reducible refine Kd.qA ?_ _) | (with_reducible refine Kd.qz ?_ _) | (with_reducible refine Kd.qF ?_))); (case side2 => exact HC0_1.out); (case side3 => repeat (first | exact (Kd.qB HR0_3.out HB.out) | (with_reducible refine Kd.qA ?_ _) | (with_reducible refine Kd.qz ?_ _) | (with_reducible refine Kd.qF ?_))); (case side4 => exact HC0_3.out); (case side5 => repeat (first | exact (Kd.qB HR0_4.out HB.out) | (with_reducible refine Kd.qA ?_ _) | (with_reducible refine Kd.qz ?_ _) | (with_reducible refine Kd.qF ?_))); (case side6 => exact HC0_4.out); (case side7 => repeat (first | exact (Kd.qB HR0_5.out HB.out) | (with_reducible refine Kd.qA ?_ _) | (with_reducible refine Kd.qz ?_ _) | (with_reducible refine Kd.qF ?_))); (case side8 => exact HC0_5.out); (case side9 => repeat (first | exact (Kd.qB HR0_6.out HB.out) | (with_reducible refine Kd.qA ?_ _) | (with_reducible refine Kd.qz ?_ _) | (with_reducible refine Kd.qF ?_))); (case side10 => exact HC0_6.out); rintro e w12 ⟨rfl, hb⟩; refine ⟨_, rfl, ?_⟩; have n0_ := za.mk (zW (g := gb273) (o := .cells #[.int .i64 a0_0, .slice A0_1 l0_1.length c0_1, .int .i64 a0_2, .slice A0_3 l0_3.length c0_3, .slice A0_4 l0_4.length c0_4, .slice A0_5 l0_5.length c0_5, .slice A0_6 l0_6.length c0_6] 37 (0, 0)) (by (with_reducible repeat (first | refine zk ?_ _ | refine zm ?_ | refine zh ?_ _)); exact BK273.out) hb); have n1_ := za.mk (zT (by repeat (first | (with_reducible first | exact HB.out | apply zf | apply zb | apply zg | refine zi ?_ GE273.out) | exact HB.out)) hb); clear BK273; clear HB; have BK273 := n0_; have HB := n1_; clear n0_ n1_; (try clear hb); (try clear hb2); (try clear hk); (try clear hi)))
  go_ret
  exact ⟨_, by first | rfl | (simp [zQ, zP] <;> rfl) | (simp [*, zQ, zP] <;> rfl), by first | exact Kd.ZO _ _ _ _ _ | exact Kd.N_nil _ _ _ _ _ | exact Kd.V_nil _ _ _ _ _ | exact Kd.Q_nil _ _ _ _ _ | exact Kd.S_nil _ _ _ _ _, by repeat (first | (with_reducible first | exact HB.out | apply zf | apply zb | apply zg | refine zi ?_ GE273.out) | exact HB.out)⟩
mutual
def zM.l0 : Nat → List Int → List Int → Int → Int → Option (Int)
 | 0, _, _, _, _ => none
 | k + 1, x0, x1, x7, x8 => if x8 < x7 then (if x8 ≥ (x1.length : Int) then (zM.j1 k x0 x1 x8 x7 x8 true) else (if 0 ≤ x8 then (if x8 < (x0.length : Int) then (if x8 < (x1.length : Int) then (zM.j1 k x0 x1 x8 x7 x8 (decide ((rd x0 x8) > (rd x1 x8)))) else (none)) else (none)) else (none))) else (if (x0.length : Int) < (x1.length : Int) then (some (-1)) else (some 0))
def zM.j1 : Nat → List Int → List Int → Int → Int → Int → Bool → Option (Int)
 | 0, _, _, _, _, _, _ => none
 | k + 1, x0, x1, x5, x7, x8, x11 => if x11 = true then (some 1) else (if 0 ≤ x5 then (if x5 < (x0.length : Int) then (if x5 < (x1.length : Int) then (if (rd x0 x5) < (rd x1 x5) then (some (-1)) else (zM.l0 k x0 x1 x7 (wrap64 (x8 + 1)))) else (none)) else (none)) else (none))
end
def zM.f (k : Nat) (l0 : List Int) (l1 : List Int) : Option (Int) := zM.l0 k l0 l1 (l0.length : Int) 0
theorem zM.qV : ∀ k, (∀ y0 y1 y2 y3, LeO (zM.l0 k y0 y1 y2 y3) (zM.l0 (k + 1) y0 y1 y2 y3)) ∧ (∀ y0 y1 y2 y3 y4 y5, LeO (zM.j1 k y0 y1 y2 y3 y4 y5) (zM.j1 (k + 1) y0 y1 y2 y3 y4 y5))
 | 0 => ⟨fun _ _ _ _ r h => by simp [zM.l0] at h, fun _ _ _ _ _ _ r h => by simp [zM.j1] at h⟩
 | k + 1 => by
  obtain ⟨ih0, ih1⟩ := zM.qV k
  refine ⟨?_, ?_⟩
  ·intro y0 y1 y2 y3
   unfold zM.l0
   repeat' first
   | (with_reducible exact ih0 _ _ _ _)
   | (with_reducible exact ih1 _ _ _ _ _ _)
   | (with_reducible exact LeO.refl _)
   | (with_reducible exact LeO.none _)
   | (with_reducible refine LeO.ite ?_ ?_)
   | (with_reducible refine LeO.bind ?_ (fun _ => ?_))
   | exact ih0 _ _ _ _
   | exact ih1 _ _ _ _ _ _
   | exact LeO.none _
   | refine LeO.ite ?_ ?_
   | refine LeO.bind ?_ (fun _ => ?_)
  ·intro y0 y1 y2 y3 y4 y5
   unfold zM.j1
   repeat' first
   | (with_reducible exact ih0 _ _ _ _)
   | (with_reducible exact ih1 _ _ _ _ _ _)
   | (with_reducible exact LeO.refl _)
   | (with_reducible exact LeO.none _)
   | (with_reducible refine LeO.ite ?_ ?_)
   | (with_reducible refine LeO.bind ?_ (fun _ => ?_))
   | exact ih0 _ _ _ _
   | exact ih1 _ _ _ _ _ _
   | exact LeO.none _
   | refine LeO.ite ?_ ?_
   | refine LeO.bind ?_ (fun _ => ?_)
theorem zM.mono : ∀ a0 a1 k, LeO (zM.f k a0 a1) (zM.f (k + 1) a0 a1) := by
 intro a0 a1 k
 obtain ⟨ih0, ih1⟩ := zM.qV k
 unfold zM.f
 repeat' first
  | (with_reducible exact ih0 _ _ _ _)
  | (with_reducible exact ih1 _ _ _ _ _ _)
  | (with_reducible exact LeO.refl _)
  | (with_reducible exact LeO.none _)
  | (with_reducible refine LeO.ite ?_ ?_)
  | (with_reducible refine LeO.bind ?_ (fun _ => ?_))
  | exact ih0 _ _ _ _
  | exact ih1 _ _ _ _ _ _
  | exact LeO.none _
  | refine LeO.ite ?_ ?_
  | refine LeO.bind ?_ (fun _ => ?_)
set_option maxHeartbeats 8000000 in
set_option maxRecDepth 100000 in
theorem zM.calls (k : Nat) (A0 : Option Addr) (c0 : Nat) (l0 : List Int) (A1 : Option Addr) (c1 : Nat) (l1 : List Int) (r : Int) (w : World) (hr0 : Kd.C (Kd.int .i64) w A0 l0.length l0) (hc0 : l0.length ≤ c0) (hr1 : Kd.C (Kd.int .i64) w A1 l1.length l1) (hc1 : l1.length ≤ c1) (h : zM.f k l0 l1 = some r) :
  Calls Try.prog 25 #[.slice A0 l0.length c0, .slice A1 l1.length c1] w fun e w' => e = .returned (.int .i64 r) ∧ qb w w' := by
 have HR0 := za.mk hr0
 have HC0 := za.mk hc0
 clear hr0 hc0
 have HR1 := za.mk hr1
 have HC1 := za.mk hc1
 clear hr1 hc1
 have H : (zM.l0 k l0 l1 (l0.length : Int) 0) = some r := h
 clear h
 have H' := za.mk H
 clear H
 go_enter Try.func25, Try.ntmps25
 go_wp2
 repeat (go_quiet (fail); try go_wp2)
 go_loopg [8] k (fun kq v8 w' => ∃ (x8_1 : Int), v8 = .int .i64 x8_1 ∧ za (zM.l0 kq l0 l1 (l0.length : Int) x8_1 = some r) ∧ za (kq ≤ k) ∧ qb w w')
 case atStart => exact ⟨(0), (by first | rfl | (simp; done) | (simp [*]; done)), H', ⟨Nat.le_refl _⟩, by repeat (first | exact qb.refl _ | apply qb.step)⟩
 case round =>
  clear H'
  try clear c1
  try clear c2
  try clear p2
  obtain ⟨x8_1, rfl, HA, HK1, ⟨m1, rfl⟩⟩ := hrel
  cases gk with
  | zero => exact absurd HA.out (by simp [zM.l0])
  | succ k1 =>
   have H := HA.out
   clear HA
   simp only [zM.l0] at H
   by_cases c3 : x8_1 < (l0.length : Int)
   ·rw [if_pos c3] at H
    have c3b0 : decide (x8_1 < (l0.length : Int)) = true := decide_eq_true c3
    clear c3
    have HC4 := za.mk H
    clear H
    go_upto_region 4 with (fail)
    repeat (go_quiet (fail); go_upto_region 4 with (fail))
    go_cut [11] (fun v11 wc => ∃ (kq : Nat) (x11_3 : Bool), v11 = .bool x11_3 ∧ za (zM.j1 kq l0 l1 x8_1 (l0.length : Int) x8_1 x11_3 = some r) ∧ za (kq ≤ k1) ∧ qb w wc)
    case first =>
     have H := HC4.out
     clear HC4
     by_cases c5 : x8_1 ≥ (l1.length : Int)
     ·rw [if_pos c5] at H
      have c5b0 : decide ((l1.length : Int) ≤ x8_1) = true := decide_eq_true c5
      clear c5
      (first | rw [c5b0] | (simp only [qh, qj]; rw [c5b0]) | skip)
      have H' := za.mk H
      clear H
      go_wp2
      repeat (go_quiet (fail); try go_wp2)
      go_meet
      case rel => exact ⟨_, (true), (by first | rfl | (simp; done) | (simp [*]; done)), H', ⟨by have := HK1.out; first | omega | exact Nat.le_refl _⟩, by repeat (first | exact qb.refl _ | apply qb.step)⟩
     ·rw [if_neg c5] at H
      have c5b0 : decide ((l1.length : Int) ≤ x8_1) = false := decide_eq_false c5
      clear c5
      (first | rw [c5b0] | (simp only [qh, qj]; rw [c5b0]) | skip)
      by_cases c6 : 0 ≤ x8_1
      ·rw [if_pos c6] at H
       have c6b0 : decide (0 ≤ x8_1) = true := decide_eq_true c6
       clear c6
       by_cases c7 : x8_1 < (l0.length : Int)
       ·rw [if_pos c7] at H
        have c7b0 : decide (x8_1 < (l0.length : Int)) = true := decide_eq_true c7
        clear c7
        by_cases c8 : x8_1 < (l1.length : Int)
        ·rw [if_pos c8] at H
         have c8b0 : decide (x8_1 < (l1.length : Int)) = true := decide_eq_true c8
         clear c8
         have H' := za.mk H
         clear H
         have p278 : 0 ≤ (x8_1 : Int) := of_decide_eq_true (by first | (with_reducible assumption) | assumption)
         have q278 : x8_1 < (l0.length : Int) := of_decide_eq_true (by first | (with_reducible assumption) | assumption)
         obtain ⟨ad278, e278, hx278_0⟩ := Kd.qX HR0.out x8_1 p278 q278
         cases e278
         replace p278 := eq_true p278
         replace q278 := eq_true q278
         have p279 : 0 ≤ (x8_1 : Int) := of_decide_eq_true (by first | (with_reducible assumption) | assumption)
         have q279 : x8_1 < (l1.length : Int) := of_decide_eq_true (by first | (with_reducible assumption) | assumption)
         obtain ⟨ad279, e279, hx279_0⟩ := Kd.qX HR1.out x8_1 p279 q279
         cases e279
         replace p279 := eq_true p279
         replace q279 := eq_true q279
         go_wp2
         repeat (go_quiet (fail); try go_wp2)
         go_meet
         case rel => exact ⟨_, (decide ((rd l0 x8_1) > (rd l1 x8_1))), (by first | rfl | (simp; done) | (simp [*]; done)), H', ⟨by have := HK1.out; first | omega | exact Nat.le_refl _⟩, by repeat (first | exact qb.refl _ | apply qb.step)⟩
        ·rw [if_neg c8] at H
         exact absurd H (by simp)
       ·rw [if_neg c7] at H
        exact absurd H (by simp)
      ·rw [if_neg c6] at H
       exact absurd H (by simp)
    case rest =>
     clear HC4
     try clear c1
     try clear c2
     try clear p2
     try clear q2
     try clear hx2
     try clear c3
     try clear c3b0
     try clear c5
     try clear c5b0
     try clear c6
     try clear c6b0
     try clear c7
     try clear c7b0
     try clear c8
     try clear c8b0
     try clear hx278_0
     try clear hx279_0
     try clear p2
     try clear p278
     try clear p279
     try clear q278
     try clear q279
     obtain ⟨kq, x11_3, rfl, HA, HJ3, ⟨mc3, rfl⟩⟩ := hcut
     cases kq with
     | zero => exact absurd HA.out (by simp [zM.j1])
     | succ kj3 =>
      have H := HA.out
      clear HA
      simp only [zM.j1] at H
      by_cases c9 : x11_3 = true
      ·subst c9
       have H1 : (some 1) = some r := by rw [if_pos rfl] at H; exact H
       clear H
       have H := H1
       clear H1
       obtain rfl := Option.some.inj H
       go_wp2
       repeat (go_quiet (fail); try go_wp2)
       go_ret
       exact ⟨by first | rfl | (simp; done) | (simp [*]; done), by repeat (first | exact qb.refl _ | apply qb.step)⟩
      ·replace c9 := Bool.eq_false_iff.mpr c9
       subst c9
       have H1 : (if 0 ≤ x8_1 then (if x8_1 < (l0.length : Int) then (if x8_1 < (l1.length : Int) then (if (rd l0 x8_1) < (rd l1 x8_1) then (some (-1)) else (zM.l0 kj3 l0 l1 (l0.length : Int) (wrap64 (x8_1 + 1)))) else (none)) else (none)) else (none)) = some r := by rw [if_neg (show ¬ (false = true) by decide)] at H; exact H
       clear H
       have H := H1
       clear H1
       by_cases c10 : 0 ≤ x8_1
       ·rw [if_pos c10] at H
        have c10b0 : decide (0 ≤ x8_1) = true := decide_eq_true c10
        clear c10
        by_cases c11 : x8_1 < (l0.length : Int)
        ·rw [if_pos c11] at H
         have c11b0 : decide (x8_1 < (l0.length : Int)) = true := decide_eq_true c11
         clear c11
         by_cases c12 : x8_1 < (l1.length : Int)
         ·rw [if_pos c12] at H
          have c12b0 : decide (x8_1 < (l1.length : Int)) = true := decide_eq_true c12
          clear c12
          by_cases c13 : (rd l0 x8_1) < (rd l1 x8_1)
          ·rw [if_pos c13] at H
           have c13b0 : decide ((rd l0 x8_1) < (rd l1 x8_1)) = true := decide_eq_true c13
           clear c13
           obtain rfl := Option.some.inj H
           have p280 : 0 ≤ (x8_1 : Int) := of_decide_eq_true (by first | (with_reducible assumption) | assumption)
           have q280 : x8_1 < (l0.length : Int) := of_decide_eq_true (by first | (with_reducible assumption) | assumption)
           obtain ⟨ad280, e280, hx280_0⟩ := Kd.qX HR0.out x8_1 p280 q280
           cases e280
           replace p280 := eq_true p280
           replace q280 := eq_true q280
           have p281 : 0 ≤ (x8_1 : Int) := of_decide_eq_true (by first | (with_reducible assumption) | assumption)
           have q281 : x8_1 < (l1.length : Int) := of_decide_eq_true (by first | (with_reducible assumption) | assumption)
           obtain ⟨ad281, e281, hx281_0⟩ := Kd.qX HR1.out x8_1 p281 q281
           cases e281
           replace p281 := eq_true p281
           replace q281 := eq_true q281
           go_wp2
           repeat (go_quiet (fail); try go_wp2)
           go_ret
           exact ⟨by first | rfl | (simp; done) | (simp [*]; done), by repeat (first | exact qb.refl _ | apply qb.step)⟩
          ·rw [if_neg c13] at H
           have c13b0 : decide ((rd l0 x8_1) < (rd l1 x8_1)) = false := decide_eq_false c13
           clear c13
           have H' := za.mk H
           clear H
           have p280 : 0 ≤ (x8_1 : Int) := of_decide_eq_true (by first | (with_reducible assumption) | assumption)
           have q280 : x8_1 < (l0.length : Int) := of_decide_eq_true (by first | (with_reducible assumption) | assumption)
           obtain ⟨ad280, e280, hx280_0⟩ := Kd.qX HR0.out x8_1 p280 q280
           cases e280
           replace p280 := eq_true p280
           replace q280 := eq_true q280
           have p281 : 0 ≤ (x8_1 : Int) := of_decide_eq_true (by first | (with_reducible assumption) | assumption)
           have q281 : x8_1 < (l1.length : Int) := of_decide_eq_true (by first | (with_reducible assumption) | assumption)
           obtain ⟨ad281, e281, hx281_0⟩ := Kd.qX HR1.out x8_1 p281 q281
           cases e281
           replace p281 := eq_true p281
           replace q281 := eq_true q281
           go_wp2
           repeat (go_quiet (fail); try go_wp2)
           go_roundg kj3
           case measure => have := HK1.out; have := HJ3.out; omega
           case rel => exact ⟨(wrap64 (x8_1 + 1)), (by first | rfl | (simp; done) | (simp [*]; done)), H', ⟨by have := HK1.out; have := HJ3.out; omega⟩, by repeat (first | exact qb.refl _ | apply qb.step)⟩
         ·rw [if_neg c12] at H
          exact absurd H (by simp)
        ·rw [if_neg c11] at H
         exact absurd H (by simp)
       ·rw [if_neg c10] at H
        exact absurd H (by simp)
   ·rw [if_neg c3] at H
    have c3b0 : decide (x8_1 < (l0.length : Int)) = false := decide_eq_false c3
    clear c3
    by_cases c14 : (l0.length : Int) < (l1.length : Int)
    ·rw [if_pos c14] at H
     have c14b0 : decide ((l0.length : Int) < (l1.length : Int)) = true := decide_eq_true c14
     have c14b1 : decide (l0.length < l1.length) = true := decide_eq_true (Int.ofNat_lt.mp c14)
     clear c14
     obtain rfl := Option.some.inj H
     go_wp2
     repeat (go_quiet (fail); try go_wp2)
     go_ret
     exact ⟨by first | rfl | (simp; done) | (simp [*]; done), by repeat (first | exact qb.refl _ | apply qb.step)⟩
    ·rw [if_neg c14] at H
     have c14b0 : decide ((l0.length : Int) < (l1.length : Int)) = false := decide_eq_false c14
     have c14b1 : decide (l0.length < l1.length) = false := decide_eq_false (fun h => c14 (Int.ofNat_lt.mpr h))
     clear c14
     obtain rfl := Option.some.inj H
     go_wp2
     repeat (go_quiet (fail); try go_wp2)
     go_ret
     exact ⟨by first | rfl | (simp; done) | (simp [*]; done), by repeat (first | exact qb.refl _ | apply qb.step)⟩
end Go.Proofs.Ytebehdjjkpffjaa.QPlans
end
