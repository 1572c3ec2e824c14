/- Contracts and lemmas on which the theorem of YtebehdjjkpffjaaRPlansz rests; no condition of their own. -/
import Derived.SizedLaws
import Derived.ChangeSlices
import Derived.Test.YtebehdjjkpffjaaRPlansg
section
namespace Go.Proofs.Ytebehdjjkpffjaa.QPlans
open Go.RowKit Go.Proofs.YtebehdjjkpffjaaW.PrintWords Go.Proofs.YtebehdjjkpffjaaW.PrintLast Go.Proofs.YtebehdjjkpffjaaW.PrintMore
theorem chk_from (l : List S66) (n : Int) (hl : l.length ≤ 4096) : ∀ (d i : Nat) (p : Option S66), i + d = l.length → (0 < i → p = l[i - 1]?) → Zg n p (l.drop i) = 0 → (i = 0 → p = none) →
  Ev (fun k => zx.l0 k l (l.length : Int) i n l) 0 := by
 intro d
 induction d with
 | zero =>
  intro i p hi _ _ _
  exact Ev.step (f := fun _ => some 0) (fun k => by simp only [zx.l0]; rw [if_neg (by omega)]) (Ev.now _)
 | succ d ih =>
  intro i p hi hp he hp0
  have hil : i < l.length := by omega
  rw [List.drop_eq_getElem_cons hil] at he
  obtain ⟨h1, h2, h3⟩ := edgesErr_uncons he
  have hn := ih (i + 1) (some l[i]) (by omega) (fun _ => by simp [hil]) h3 (fun h => by omega)
  have hb : 0 ≤ l[i].f0 ∧ l[i].f0 < l[i].f1 ∧ l[i].f1 < n := by
   unfold ZP at h1; simp only [Bool.or_eq_false_iff, decide_eq_false_iff_not] at h1; omega
  have ew : wrap64 ((i : Int) + 1) = ((i + 1 : Nat) : Int) := by rw [wrap_small _ (by omega) (by omega)]; rfl
  refine Ev.step (f := fun k => zx.j2 k i l (l.length : Int) i (decide (l[i].f1 ≥ n)) n l l[i].f0 l[i].f1) (fun k => ?_) ?_
  ·simp only [zx.l0]
   rw [if_pos (by omega), if_pos (by omega), if_pos (by omega), rd66_nat _ _ hil, if_neg (by omega), if_neg (by omega)]
  ·refine Ev.step (f := fun k => zx.l0 k l (l.length : Int) ((i + 1 : Nat) : Int) n l) (fun k => ?_) hn
   simp only [zx.j2]
   rw [if_neg (by simp; omega)]
   by_cases h0 : 0 < i
   ·have e1 : wrap64 ((i : Int) - 1) = ((i - 1 : Nat) : Int) := by rw [wrap_small _ (by omega) (by omega)]; omega
    have hlt := h2 (l[i - 1]'(by omega)) (by rw [hp h0, List.getElem?_eq_getElem (show i - 1 < l.length by omega)])
    rw [if_pos (by omega), e1, if_pos (by omega), if_pos (by omega), rd66_nat _ _ (show i - 1 < l.length by omega), ew]
    have eb : qY.f (l[i - 1]'(by omega)).f0 (l[i - 1]'(by omega)).f1 l[i].f0 l[i].f1 = some true := by
     unfold qY.f
     rcases hlt with h | ⟨h, h'⟩
     ·rw [if_pos h]
     ·rw [if_neg (by omega), if_pos h, decide_eq_true h']
    rw [eb]; rfl
   ·rw [if_neg (by omega), ew]
end Go.Proofs.Ytebehdjjkpffjaa.QPlans
end
section
namespace Go.Proofs.Ytebehdjjkpffjaa.QPlans
open Go.RowKit Go.Proofs.YtebehdjjkpffjaaW.PrintWords Go.Proofs.YtebehdjjkpffjaaW.PrintLast Go.Proofs.YtebehdjjkpffjaaW.PrintMore
theorem check_zero (l : List S66) (n : Int) (h : Zn n l = 0) : Ev (fun k => zx.f k n l) 0 := by
 obtain ⟨h0, h1, _, hl⟩ := graphErr_ok h
 unfold Zn at h
 rw [if_neg (by omega)] at h
 have hc := chk_from l n hl l.length 0 none (by omega) (fun h => by omega) (by simpa using h) (fun _ => rfl)
 refine Ev.congr (f := fun k => zx.j0 k false n l) (fun k => ?_) (Ev.step (f := fun k => zx.l0 k l (l.length : Int) 0 n l) (fun k => ?_) hc)
 ·simp only [zx.f]
  rw [if_neg (by omega), decide_eq_false (by omega)]
 ·simp only [zx.j0]
  rw [if_neg Bool.false_ne_true]
theorem near_ev (l : List S66) (n v : Int) (h : Zn n l = 0) : ∃ r, Ev (fun k => zA.f k n l v) r ∧ r.Pairwise (· < ·) ∧ (∀ y, y ∈ r ↔ y ∈ Qp l v) ∧ r.length ≤ 10000 := by
 obtain ⟨_, _, _, hl⟩ := graphErr_ok h
 have hlen := endsOf_len l v
 obtain ⟨r, hev, hp, hm, hrl⟩ := of_ev (Qp l v) (by omega)
 refine ⟨r, Ev.bind (a := (0 : Int)) (check_zero l n h) ?_, hp, hm, by omega⟩
 simp only [if_true]
 exact near_from l v hl r hev l.length 0 (by omega)
end Go.Proofs.Ytebehdjjkpffjaa.QPlans
end
section
namespace Go.Proofs.Ytebehdjjkpffjaa.QPlans
open Go.RowKit Go.Proofs.YtebehdjjkpffjaaW.PrintWords Go.Proofs.YtebehdjjkpffjaaW.PrintLast Go.Proofs.YtebehdjjkpffjaaW.PrintMore
theorem rising_len : ∀ (l : List Int) (a W : Int), l.Pairwise (· < ·) → (∀ x ∈ l, a ≤ x ∧ x < W) → a ≤ W → (l.length : Int) ≤ W - a
 | [], a, W, _, _, h => by simp only [List.length_nil]; omega
 | x :: r, a, W, hp, h, haw => by
  rw [List.pairwise_cons] at hp
  have hx := h x List.mem_cons_self
  have := rising_len r (x + 1) W hp.2 (fun y hy => ⟨by have := hp.1 y hy; omega, (h y (List.mem_cons_of_mem _ hy)).2⟩) (by omega)
  rw [List.length_cons]
  omega
theorem rd_mem (l : List Int) (v : Int) (h0 : 0 ≤ v) (h : v < l.length) : rd l v ∈ l := by
 obtain ⟨n, rfl⟩ := Int.eq_ofNat_of_zero_le h0
 rw [Zv _ _ (by omega)]
 exact List.getElem_mem _
theorem sum_add (a b : Nat → Nat) (l : List Nat) : (l.map fun i => a i + b i).sum = (l.map a).sum + (l.map b).sum := by
 induction l with
 | nil => rfl
 | cons x r ih => simp only [List.map_cons, List.sum_cons, ih]; omega
theorem sum_at (W : Nat) (c : Int) (x : Nat) : ((List.range W).map fun (i : Nat) => if c = (i : Int) then x else 0).sum = if 0 ≤ c ∧ c < W then x else 0 := by
 induction W with
 | zero => simp; omega
 | succ W ih =>
  rw [List.range_succ, List.map_append, List.sum_append, ih]
  simp only [List.map_cons, List.map_nil, List.sum_cons, List.sum_nil]
  by_cases h : c = (W : Int)
  ·subst h; rw [if_neg (by omega), if_pos rfl, if_pos (by omega)]; omega
  ·rw [if_neg h]
   by_cases h2 : 0 ≤ c ∧ c < W
   ·rw [if_pos h2, if_pos (by omega)]; rfl
   ·rw [if_neg h2, if_neg (by omega)]; rfl
theorem sum_swap (W n : Nat) (o : Nat → Int) (f : Nat → Nat) (h : ∀ v < n, 0 ≤ o v ∧ o v < W) :
  ((List.range W).map fun (i : Nat) => ((List.range n).map fun v => if o v = (i : Int) then f v else 0).sum).sum = ((List.range n).map f).sum := by
 induction n with
 | zero =>
  clear h
  induction W with
  | zero => rfl
  | succ W ih => rw [List.range_succ, List.map_append, List.sum_append, ih]; rfl
 | succ n ih =>
  have e : (fun (i : Nat) => ((List.range (n + 1)).map fun v => if o v = (i : Int) then f v else 0).sum) = fun (i : Nat) => ((List.range n).map fun v => if o v = (i : Int) then f v else 0).sum + (if o n = (i : Int) then f n else 0) := by
   funext i
   rw [List.range_succ, List.map_append, List.sum_append]
   simp
  rw [e, sum_add, ih (fun v hv => h v (by omega)), sum_at, if_pos (h n (by omega)), List.range_succ, List.map_append, List.sum_append]
  simp
theorem start_total {N W : Nat} {E : List S66} {owner : List Int} (he : EdgesIn N E) (ho : owner.length = N) (how : ∀ x ∈ owner, 0 ≤ x ∧ x < (W : Int)) :
  ((List.range W).map fun (i : Nat) => total (bOf (nbrs N E) owner N W (i : Int))).sum = ((List.range N).map fun (v : Nat) => (Zh owner ((nbrs N E).getD v []) v).length).sum := by
 have hrd : ∀ v < N, 0 ≤ rd owner (v : Int) ∧ rd owner (v : Int) < W := fun v hv => how _ (rd_mem _ _ (by omega) (by omega))
 rw [← sum_swap W N (fun v => rd owner (v : Int)) _ hrd]
 congr 1
 apply List.map_congr_left
 intro i _
 unfold bOf
 rw [total_told]
 ·have : total (List.replicate W ([] : List S56)) = 0 := by
   unfold total
   rw [List.map_replicate]
   simp
  rw [this, Nat.zero_add]
 ·intro v hv x hx
  rw [(owners_rising _ _ _).2] at hx
  obtain ⟨⟨u, hu, rfl⟩, _⟩ := hx
  have := nbrs_nodes N E he v u hu
  have := hrd u.toNat (by omega)
  rw [show ((u.toNat : Nat) : Int) = u by omega] at this
  simpa using this
end Go.Proofs.Ytebehdjjkpffjaa.QPlans
end
section
namespace Go.Proofs.Ytebehdjjkpffjaa.QPlans
open Go.RowKit Go.Proofs.YtebehdjjkpffjaaW.PrintWords Go.Proofs.YtebehdjjkpffjaaW.PrintLast Go.Proofs.YtebehdjjkpffjaaW.PrintMore
theorem set_from (l : List Int) (n : Int) (hl : l.length ≤ 100000) (h : ∀ x ∈ l, 0 ≤ x ∧ x < n) (hp : l.Pairwise (· < ·)) : ∀ d i : Nat, i + d = l.length → Ev (fun k => zH.l0 k l n l (l.length : Int) i) true := by
 intro d
 induction d with
 | zero =>
  intro i hi
  exact Ev.step (f := fun _ => some true) (fun k => by simp only [zH.l0]; rw [if_neg (by omega)]) (Ev.now _)
 | succ d ih =>
  intro i hi
  have hil : i < l.length := by omega
  have hx := h _ (List.getElem_mem hil)
  refine Ev.step (f := fun k => zH.l0 k l n l (l.length : Int) ((i + 1 : Nat) : Int)) (fun k => ?_) (ih (i + 1) (by omega))
  simp only [zH.l0]
  have ew : wrap64 ((i : Int) + 1) = ((i + 1 : Nat) : Int) := by rw [wrap_small _ (by omega) (by omega)]; rfl
  rw [if_pos (by omega), if_pos (by omega), if_pos (by omega), Zv _ _ hil, if_neg (by omega), if_neg (by omega), ew]
  by_cases h0 : 0 < i
  ·have e1 : wrap64 ((i : Int) - 1) = ((i - 1 : Nat) : Int) := by rw [wrap_small _ (by omega) (by omega)]; omega
   have := List.pairwise_iff_getElem.1 hp (i - 1) i (by omega) hil (by omega)
   rw [if_pos (by omega), e1, if_pos (by omega), if_pos (by omega), Zv _ _ (show i - 1 < l.length by omega), if_neg (by omega)]
  ·rw [if_neg (by omega)]
theorem chk37_from (W : Int) (O H : List Int) (hl : O.length ≤ 100000) (h : ∀ x ∈ O, 0 ≤ x ∧ x < W) : ∀ d i : Nat, i + d = O.length → Ev (fun k => zy.l0 k i W O H) 0 := by
 intro d
 induction d with
 | zero =>
  intro i hi
  exact Ev.step (f := fun _ => some 0) (fun k => by simp only [zy.l0]; rw [if_neg (by omega)]) (Ev.now _)
 | succ d ih =>
  intro i hi
  have hil : i < O.length := by omega
  have hx := h _ (List.getElem_mem hil)
  refine Ev.step (f := fun k => zy.l0 k ((i + 1 : Nat) : Int) W O H) (fun k => ?_) (ih (i + 1) (by omega))
  simp only [zy.l0]
  rw [if_pos (by omega), if_pos (by omega), Zv _ _ hil, if_neg (by omega), if_neg (by omega), wrap_small _ (by omega) (by omega)]
  rfl
theorem check37_zero {W n : Int} {O H : List Int} (h1 : 1 ≤ W) (h2 : W ≤ 8) (hn : n ≤ 1000) (h3 : (O.length : Int) = n) (h4 : ∀ x ∈ O, 0 ≤ x ∧ x < W) (h5 : ∀ x ∈ H, 0 ≤ x ∧ x < n) (h6 : H.Pairwise (· < ·)) (h7 : (H.length : Int) ≤ n) :
  Ev (fun k => zy.f k W O H n) 0 := by
 refine Ev.congr (f := fun k => zy.j0 k n false W O H) (fun k => by
  simp only [zy.f]
  rw [if_neg (by omega), decide_eq_false (by omega)]) ?_
 refine Ev.step (f := fun k => (zH.f k H n).bind fun t => zy.j1 k (!t) W O H) (fun k => by
  simp only [zy.j0]
  rw [if_neg Bool.false_ne_true, if_pos h3]) ?_
 refine Ev.bind (a := true) (set_from H n (by omega) h5 h6 H.length 0 (by omega)) ?_
 refine Ev.step (f := fun k => zy.l0 k 0 W O H) (fun k => by
  simp only [zy.j1]
  rw [if_neg (by decide)]) ?_
 exact chk37_from W O H (by omega) h4 O.length 0 (by omega)
end Go.Proofs.Ytebehdjjkpffjaa.QPlans
end
section
namespace Go.Proofs.Ytebehdjjkpffjaa.QPlans
open Go.RowKit Go.Proofs.YtebehdjjkpffjaaW.PrintWords Go.Proofs.YtebehdjjkpffjaaW.PrintLast Go.Proofs.YtebehdjjkpffjaaW.PrintMore
theorem rd9_nat (l : List (List S56)) (i : Nat) (h : i < l.length) : rd_L9 l (i : Int) = l[i] := by simp [rd_L9, List.getD_eq_getElem?_getD, h]
theorem rd10_nat (l : List (List (List S56))) (i : Nat) (h : i < l.length) : Zc l (i : Int) = l[i] := by simp [Zc, List.getD_eq_getElem?_getD, h]
theorem total_drop (row : List (List S56)) (j : Nat) (h : j < row.length) : total (row.drop j) = row[j].length + total (row.drop (j + 1)) := by
 unfold total
 rw [List.drop_eq_getElem_cons h, List.map_cons, List.sum_cons]
theorem row_from (x7 x9 : Int) (B : List (List (List S56))) (i : Nat) (n : Int) (E : List S66) (W : Int) (O H : List Int) (row : List (List S56)) (hi : i < 1000) (hrow : row.length ≤ 1000) (r : Bool) : ∀ (d j : Nat) (x8 : Nat), j + d = row.length → x8 + total (row.drop j) ≤ 1000000000 →
  Ev (fun k => zo.l0 k x7 ((x8 + total (row.drop j) : Nat) : Int) x9 B (B.length : Int) ((i + 1 : Nat) : Int) n E W O H) r → Ev (fun k => zo.l1 k x7 x8 x9 B (B.length : Int) i row (row.length : Int) j n E W O H) r := by
 intro d
 induction d with
 | zero =>
  intro j x8 hj hb h
  have hz : total (row.drop j) = 0 := by rw [List.drop_eq_nil_of_le (by omega)]; rfl
  rw [hz, Nat.add_zero] at h
  refine Ev.step (f := fun k => zo.l0 k x7 (x8 : Int) x9 B (B.length : Int) ((i + 1 : Nat) : Int) n E W O H) (fun k => ?_) h
  simp only [zo.l1]
  rw [if_neg (by omega), wrap_small _ (by omega) (by omega)]
  rfl
 | succ d ih =>
  intro j x8 hj hb h
  have hjl : j < row.length := by omega
  have ht := total_drop row j hjl
  rw [ht] at h hb
  refine Ev.step (f := fun k => zo.l1 k x7 ((x8 + row[j].length : Nat) : Int) x9 B (B.length : Int) i row (row.length : Int) ((j + 1 : Nat) : Int) n E W O H) (fun k => ?_) (ih (j + 1) (x8 + row[j].length) (by omega) (by omega) (by rw [← Nat.add_assoc] at h; exact h))
  simp only [zo.l1]
  rw [if_pos (by omega), if_pos (by omega), if_pos (by omega), rd9_nat _ _ hjl, wrap_small _ (by omega) (by omega), wrap_small _ (by omega) (by omega)]
  rfl
theorem boxes_from (x7 x9 : Int) (B : List (List (List S56))) (n : Int) (E : List S66) (W : Int) (O H : List Int) (hB : B.length ≤ 1000) (hrow : ∀ row ∈ B, row.length ≤ 1000) (r : Bool) : ∀ (d i : Nat) (x8 : Nat), i + d = B.length → x8 + ((B.drop i).map total).sum ≤ 1000000000 →
  Ev (fun k => zo.l2 k x7 ((x8 + ((B.drop i).map total).sum : Nat) : Int) x9 0 n E W O H) r → Ev (fun k => zo.l0 k x7 x8 x9 B (B.length : Int) i n E W O H) r := by
 intro d
 induction d with
 | zero =>
  intro i x8 hi hb h
  have hz : ((B.drop i).map total).sum = 0 := by rw [List.drop_eq_nil_of_le (by omega)]; rfl
  rw [hz, Nat.add_zero] at h
  refine Ev.step (f := fun k => zo.l2 k x7 (x8 : Int) x9 0 n E W O H) (fun k => ?_) h
  simp only [zo.l0]
  rw [if_neg (by omega)]
 | succ d ih =>
  intro i x8 hi hb h
  have hil : i < B.length := by omega
  have ht : ((B.drop i).map total).sum = total B[i] + ((B.drop (i + 1)).map total).sum := by rw [List.drop_eq_getElem_cons hil, List.map_cons, List.sum_cons]
  rw [ht] at h hb
  have hn := ih (i + 1) (x8 + total B[i]) (by omega) (by omega) (by rw [← Nat.add_assoc] at h; exact h)
  refine Ev.step (f := fun k => zo.l1 k x7 x8 x9 B (B.length : Int) i B[i] (B[i].length : Int) 0 n E W O H) (fun k => ?_) (row_from x7 x9 B i n E W O H B[i] (by omega) (hrow _ (List.getElem_mem hil)) r B[i].length 0 x8 (by omega) (by simp only [List.drop_zero]; omega) (by simpa using hn))
  simp only [zo.l0]
  rw [if_pos (by omega), if_pos (by omega), if_pos (by omega), rd10_nat _ _ hil]
theorem own_from (x7 x8 x9 : Int) (v : Nat) (n : Int) (E : List S66) (W : Int) (O H : List Int) (nb : List Int) (hnb : nb.length ≤ 10000) (hin : ∀ u ∈ nb, 0 ≤ u ∧ u < O.length) (hv : v < O.length) (r : Bool)
  (h : Ev (fun k => (zD.f k (nb.map (rd O)) [rd O v]).bind fun t => zo.l2 k x7 x8 (wrap64 (x9 + (t.length : Int))) (wrap64 ((v : Int) + 1)) n E W O H) r) : ∀ (d i : Nat), i + d = nb.length →
  Ev (fun k => zo.l3 k x7 x8 x9 v ((nb.take i).map (rd O)) nb (nb.length : Int) i n E W O H) r := by
 intro d
 induction d with
 | zero =>
  intro i hi
  rw [List.take_of_length_le (by omega)]
  refine Ev.step (k := h) (fun k => ?_)
  simp only [zo.l3]
  rw [if_neg (by omega), if_pos (by omega), if_pos (by omega)]
 | succ d ih =>
  intro i hi
  have hil : i < nb.length := by omega
  have hn := ih (i + 1) (by omega)
  have hu := hin _ (List.getElem_mem hil)
  rw [List.take_succ_eq_append_getElem hil, List.map_append] at hn
  refine Ev.step (k := hn) (fun k => ?_)
  simp only [zo.l3]
  rw [if_pos (by omega), if_pos (by omega), if_pos (by omega), Zv _ _ hil, if_pos hu.1, if_pos hu.2, if_pos (by rw [List.length_map, List.length_take]; omega), wrap_small _ (by omega) (by omega)]
  rfl
theorem want_from (x8 : Int) (n : Nat) (E : List S66) (W : Nat) (O H : List Int) (hn : n ≤ 64) (hW : W ≤ 8) (hg : Zn n E = 0) (hO : O.length = n) (how : ∀ x ∈ O, 0 ≤ x ∧ x < (W : Int)) (r : Bool) : ∀ (d v : Nat) (x9 : Nat), v + d = n → x9 ≤ 8 * v →
  Ev (fun k => zo.l2 k 0 x8 ((x9 + (((List.range n).drop v).map fun (v : Nat) => (Zh O ((nbrs n E).getD v []) v).length).sum : Nat) : Int) n n E W O H) r → Ev (fun k => zo.l2 k 0 x8 x9 v n E W O H) r := by
 obtain ⟨_, _, hE, hl⟩ := graphErr_ok hg
 have he : EdgesIn n E := fun e h => by have := hE e h; omega
 intro d
 induction d with
 | zero =>
  intro v x9 hv _ h
  obtain rfl : v = n := by omega
  rw [List.drop_eq_nil_of_le (by simp)] at h
  exact h
 | succ d ih =>
  intro v x9 hv hx h
  have hvn : v < n := by omega
  have hd : (List.range n).drop v = v :: (List.range n).drop (v + 1) := by
   rw [List.drop_eq_getElem_cons (by simpa using hvn)]
   simp
  rw [hd, List.map_cons, List.sum_cons, ← Nat.add_assoc] at h
  obtain ⟨nb, hev, hp, hm, hlen⟩ := near_ev E n v hg
  have hne := nbrs_ends n E he v hvn
  have hin : ∀ u ∈ nb, 0 ≤ u ∧ u < O.length := by
   intro u hu
   rw [hm, ← hne] at hu
   have := nbrs_nodes n E he v u hu
   omega
  obtain ⟨t, ht, htp, htm⟩ := minus_ev (nb.map (rd O)) [rd O v] (by rw [List.length_map]; omega) (by simp)
  have hown := owners_rising O ((nbrs n E).getD v []) v
  have htt : t = Zh O ((nbrs n E).getD v []) v := by
   refine rising_eq _ _ htp hown.1 (fun y => ?_)
   rw [htm, hown.2, hne, List.mem_map, List.mem_singleton]
   constructor
   ·rintro ⟨⟨u, hu, e⟩, hy⟩; exact ⟨⟨u, (hm u).1 hu, e⟩, hy⟩
   ·rintro ⟨⟨u, hu, e⟩, hy⟩; exact ⟨⟨u, (hm u).2 hu, e⟩, hy⟩
  have hlt : t.length ≤ 8 := by
   have := rising_len t 0 W htp (fun y hy => by
    rw [htm, List.mem_map] at hy
    obtain ⟨⟨u, hu, rfl⟩, _⟩ := hy
    have := hin u hu
    exact how _ (rd_mem _ _ this.1 (by omega))) (by omega)
   omega
  rw [← htt] at h
  have hnext := ih (v + 1) (x9 + t.length) (by omega) (by omega) h
  refine Ev.step (f := fun k => (zA.f k n E v).bind fun t511 => zo.l3 k 0 x8 x9 v ([] : List Int) t511 (t511.length : Int) 0 n E W O H) (fun k => ?_) (Ev.bind (a := nb) hev (own_from 0 x8 x9 v n E W O H nb hlen hin (by omega) r (Ev.bind (a := t) ht ?_) nb.length 0 (by omega)))
  ·simp only [zo.l2]
   rw [if_pos (by omega)]
  ·have e1 : wrap64 ((x9 : Int) + (t.length : Int)) = ((x9 + t.length : Nat) : Int) := by rw [wrap_small _ (by omega) (by omega)]; rfl
   have e2 : wrap64 ((v : Int) + 1) = ((v + 1 : Nat) : Int) := by rw [wrap_small _ (by omega) (by omega)]; rfl
   rw [e1, e2]
   exact hnext
end Go.Proofs.Ytebehdjjkpffjaa.QPlans
end
section
namespace Go.Proofs.Ytebehdjjkpffjaa.Pure
open Go.RowKit Go.Proofs.Ytebehdjjkpffjaa.QPlans Go.Proofs.YtebehdjjkpffjaaW.PrintWords Go.Proofs.YtebehdjjkpffjaaW.PrintLast
theorem list_at (B : List (List (List S56))) (W : Nat) (f : Nat → List (List S56)) (h : B = (List.range W).map f) : (B.map total).sum = ((List.range W).map fun i => total (f i)).sum := by
 rw [h, List.map_map]; rfl
theorem RoundsPlans : zo.Pure := by
 intro l hl1 hl2 hl3
 apply Ev.rounds
 by_cases hf : (l.length : Int) ≤ 500
 ·have hl : l.length ≤ 1000 := by omega
  obtain ⟨n, E, s1, hgev, hn0, hn8, hg, hs1⟩ := graph_ev l hl 0 8 (by omega) (by omega) ⟨by omega, by omega⟩
  obtain ⟨W, O, H, s2, hpev, hW1, hW4, hO, how, hH1, hH2, hH3, hs2⟩ := plan_ev l hl s1 n hn0 (by omega) hs1
  obtain ⟨N, rfl⟩ := Int.eq_ofNat_of_zero_le hn0
  obtain ⟨W, rfl⟩ := Int.eq_ofNat_of_zero_le (show 0 ≤ W by omega)
  have hplan : ZF W O H N = 0 := planErr_zero hW1 (by omega) hO how hH1 hH2
  have hst : Zr N E W O H = 0 := by unfold Zr; rw [if_pos hg]; exact hplan
  obtain ⟨_, _, hE, hEl⟩ := graphErr_ok hg
  have he : EdgesIn N E := fun e h => by have := hE e h; omega
  have htot := start_total (W := W) he (show O.length = N by omega) how
  have hsum : ((List.range N).map fun (v : Nat) => (Zh O ((nbrs N E).getD v []) v).length).sum ≤ 8 * N := by
   suffices ∀ m ≤ N, ((List.range m).map fun (v : Nat) => (Zh O ((nbrs N E).getD v []) v).length).sum ≤ 8 * m from this N (Nat.le_refl _)
   intro m
   induction m with
   | zero => intro _; simp
   | succ m ih =>
    intro hm
    have := ih (by omega)
    rw [List.range_succ, List.map_append, List.sum_append]
    have hr := owners_rising O ((nbrs N E).getD m []) m
    have := rising_len _ 0 W hr.1 (fun y hy => by
     rw [hr.2] at hy
     obtain ⟨⟨u, hu, rfl⟩, _⟩ := hy
     have := nbrs_nodes N E he m u hu
     exact how _ (rd_mem _ _ this.1 (by omega))) (by omega)
    simp only [List.map_cons, List.map_nil, List.sum_cons, List.sum_nil]
    omega
  generalize hB : (List.range W).map (fun (i : Nat) => bOf (nbrs N E) O N W (i : Int)) = B
  have hBl : B.length = W := by rw [← hB]; simp
  have hBrow : ∀ row ∈ B, row.length ≤ 1000 := by
   intro row hrow
   rw [← hB, List.mem_map] at hrow
   obtain ⟨i, _, rfl⟩ := hrow
   unfold bOf
   rw [told_length, List.length_replicate]
   omega
  have hBt : (B.map total).sum = ((List.range N).map fun (v : Nat) => (Zh O ((nbrs N E).getD v []) v).length).sum := by
   rw [list_at B W _ hB.symm, htot]
  have hstart : ∃ K, qE.f (N : Int) E (W : Int) O H = some ((N : Int), E, (W : Int), O, H, K, B, 0) := by
   unfold qE.f
   rw [if_pos (by omega), if_pos hst]
   simp only [Int.toNat_natCast, hB]
   exact ⟨_, rfl⟩
  obtain ⟨K, hstart⟩ := hstart
  refine Ev.congr (f := fun k => (zw.f k l 0 8).bind fun a => (qf.f k l a.2.2 a.1).bind fun b => (qE.f a.1 a.2.1 b.1 b.2.1 b.2.2.1).bind fun c => zo.l0 k c.2.2.2.2.2.2.2 0 0 c.2.2.2.2.2.2.1 (c.2.2.2.2.2.2.1.length : Int) 0 a.1 a.2.1 b.1 b.2.1 b.2.2.1) (fun k => by
   simp only [zo.f, Zk.f, Zl.f, Option.bind_some, decide_eq_true hf, if_true]) ?_
  refine Ev.bind (a := ((N : Int), E, s1)) hgev ?_
  refine Ev.bind (a := ((W : Int), O, H, s2)) hpev ?_
  simp only [hstart, Option.bind_some]
  refine boxes_from 0 0 B N E W O H (by omega) hBrow true B.length 0 0 (by omega) (by simp only [List.drop_zero]; omega) ?_
  simp only [List.drop_zero, Nat.zero_add]
  refine want_from _ N E W O H (by omega) (by omega) hg (by omega) how true N 0 0 (by omega) (by omega) ?_
  simp only [List.drop_zero, Nat.zero_add]
  rw [← hBt]
  refine Ev.step (f := fun k => (zy.f k W O H N).bind fun t => if t = 0 then (zU.f k).bind fun t => some t else some false) (fun k => by
   simp only [zo.l2]
   rw [if_neg (by omega)]
   simp only [if_true]) ?_
  refine Ev.bind (a := (0 : Int)) (check37_zero hW1 (by omega) (by omega) hO how hH1 hH2 hH3) ?_
  simp only [if_true]
  exact Ev.bind (a := true) awake_ev (Ev.now _)
 ·refine Ev.congr (f := fun k => (zU.f k).bind fun t => some t) (fun k => by
   simp only [zo.f, Zk.f, Option.bind_some, decide_eq_false hf, Bool.false_eq_true, if_false]) ?_
  exact Ev.bind (a := true) awake_ev (Ev.now _)
end Go.Proofs.Ytebehdjjkpffjaa.Pure
end
section
namespace Go.Proofs.YtebehdjjkpffjaaW.PrintWords
open Go.ChangeShapes Go.WideShapes
theorem sized_ints {H : Type} {enc : TypeId × Value → H} {P : Program} {W : World} {base : Nat} {spare : Nat → Bool} {held : Bool} {t e : TypeId} {k : IntKind} {a : Option Addr} {len cap : Nat} {d : DataW H} {ps : List MemPlace} {ts : List TypeId} {ds : List (DataW H)} {j : Nat}
  (hsz : (DataW.weightsEach P ts ds).all (· ≤ reachBytes) = true) (ht : ts[j]? = some t) (hd : ds[j]? = some d) (hu : P.underlying t = some (.slice e)) (he : P.underlying e = some (.int k)) (hc : P.cellsOf e = 1) {B : Nat} (hB : P.bytesOf e = B)
  (h : DataW.Trod enc P W base spare held t (.slice a len cap) d ps) : len * B ≤ 140737488351232 := by
 obtain ⟨fuel, hf⟩ := h
 rcases open_ints hu he hc hf with ⟨hcs, _⟩ | ⟨x, l, c, zs, hcs, _, hl, _, hz, hx, _, _⟩
 ·simp [Value.cells] at hcs
  obtain ⟨rfl, rfl, rfl⟩ := hcs
  simp
 ·simp [Value.cells] at hcs
  obtain ⟨rfl, rfl, rfl⟩ := hcs
  obtain ⟨hx, _⟩ := Prod.mk.inj hx
  subst hx
  have z := sized_slice hsz ht hd hu
  rw [hB] at z
  have hl2 : len ≤ zs.length := by
   rw [hz]
   split
   ·exact hl
   ·exact Nat.le_refl _
  have h1 : (lits (H := H) k (zs.take len)).length + (lits (H := H) k (zs.drop len)).length = zs.length := by
   simp [lits]
   omega
  rw [h1] at z
  exact Nat.le_trans (Nat.mul_le_mul_right _ hl2) z
end Go.Proofs.YtebehdjjkpffjaaW.PrintWords
end
