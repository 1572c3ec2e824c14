/- Contracts and lemmas on which the theorem of YtebehdjjkpffjaaRPlansz rests; no condition of their own. -/
import Derived.Shelf.Small.Bits
import Derived.Shelf.Strconv.Itoa0
import Derived.Shelf.Sort.Plain
import Derived.Shelf.Bits.Mul64
import Derived.Ground.Names2Prog
import Derived.Shelf.Slices.Clone
import Derived.Shelf.Slices.CompactI
import Derived.Shelf.Slices.SearchI
import Derived.Shelf.Slices.Cells
import Derived.Shelf.Slices.In.SortNone
import Derived.Ground.SlgnProg
import Derived.Shelf.SlicesE.Clone
import Derived.Sort.OwnSortedInts
import Derived.WalkSpells
import Derived.RegionTactic
import Derived.Test.YtebehdjjkpffjaaRPlansb
section
namespace Go.Proofs
open Go.Shelf
def Try.lays189_ren : Go.Shelf.Ren := ⟨fun | 189 => 79 | 125 => 84 | 257 => 83 | 128 => 95 | 129 => 96 | 294 => 86 | 295 => 87 | 296 => 88 | 297 => 89 | 298 => 90 | 299 => 91 | 216 => 92 | 300 => 93 | 301 => 94 | 328 => 97 | 329 => 98 | 330 => 99 | 331 => 100 | 332 => 101 | 215 => 85 | 343 => 102 | n => n, fun | 28 => 22 | 3 => 3 | 46 => 96 | 0 => 0 | 51 => 105 | 53 => 108 | 4 => 4 | 183 => 117 | 182 => 116 | 131 => 122 | 5 => 5 | 9 => 9 | 218 => 126 | 222 => 130 | 228 => 132 | 229 => 133 | n => n, fun | n => n⟩
theorem Try.lays189 : Go.Proofs.Lays.n189 Try.prog Try.lays189_ren := {
 mixed := by kernel_rfl
 f125 := Try.func84.trans (congrArg some (by kernel_rfl))
 f128 := Try.func95.trans (congrArg some (by kernel_rfl))
 f129 := Try.func96.trans (congrArg some (by kernel_rfl))
 f189 := Try.func79.trans (congrArg some (by kernel_rfl))
 f215 := Try.func85.trans (congrArg some (by kernel_rfl))
 f216 := Try.func92.trans (congrArg some (by kernel_rfl))
 f257 := Try.func83.trans (congrArg some (by kernel_rfl))
 f294 := Try.func86.trans (congrArg some (by kernel_rfl))
 f295 := Try.func87.trans (congrArg some (by kernel_rfl))
 f296 := Try.func88.trans (congrArg some (by kernel_rfl))
 f297 := Try.func89.trans (congrArg some (by kernel_rfl))
 f298 := Try.func90.trans (congrArg some (by kernel_rfl))
 f299 := Try.func91.trans (congrArg some (by kernel_rfl))
 f300 := Try.func93.trans (congrArg some (by kernel_rfl))
 f301 := Try.func94.trans (congrArg some (by kernel_rfl))
 f328 := Try.func97.trans (congrArg some (by kernel_rfl))
 f329 := Try.func98.trans (congrArg some (by kernel_rfl))
 f330 := Try.func99.trans (congrArg some (by kernel_rfl))
 f331 := Try.func100.trans (congrArg some (by kernel_rfl))
 f332 := Try.func101.trans (congrArg some (by kernel_rfl))
 f343 := Try.func102.trans (congrArg some (by kernel_rfl))
 t0 := Try.underlying0
 a0 := Try.isAgg0
 z0 := Try.sizeOf0
 v0 := Try.zeroValue0
 t3 := Try.underlying3
 a3 := Try.isAgg3
 z3 := Try.sizeOf3
 v3 := Try.zeroValue3
 t4 := Try.underlying4
 a4 := Try.isAgg4
 z4 := Try.sizeOf4
 v4 := Try.zeroValue4
 t5 := Try.underlying5
 a5 := Try.isAgg5
 z5 := Try.sizeOf5
 v5 := Try.zeroValue5
 t9 := Try.underlying9
 a9 := Try.isAgg9
 z9 := Try.sizeOf9
 v9 := Try.zeroValue9
 t28 := Try.underlying22
 a28 := Try.isAgg22
 z28 := Try.sizeOf22
 v28 := Try.zeroValue22
 t46 := Try.underlying96
 a46 := Try.isAgg96
 z46 := Try.sizeOf96
 v46 := Try.zeroValue96
 t51 := Try.underlying105
 a51 := Try.isAgg105
 z51 := Try.sizeOf105
 v51 := Try.zeroValue105
 t53 := Try.underlying108
 a53 := Try.isAgg108
 z53 := Try.sizeOf108
 v53 := Try.zeroValue108
 t131 := Try.underlying122
 a131 := Try.isAgg122
 z131 := Try.sizeOf122
 v131 := Try.zeroValue122
 t182 := Try.underlying116
 a182 := Try.isAgg116
 z182 := Try.sizeOf116
 v182 := Try.zeroValue116
 t183 := Try.underlying117
 a183 := Try.isAgg117
 z183 := Try.sizeOf117
 v183 := Try.zeroValue117
 t218 := Try.underlying126
 a218 := Try.isAgg126
 z218 := Try.sizeOf126
 v218 := Try.zeroValue126
 t222 := Try.underlying130
 a222 := Try.isAgg130
 z222 := Try.sizeOf130
 v222 := Try.zeroValue130
 t228 := Try.underlying132
 a228 := Try.isAgg132
 z228 := Try.sizeOf132
 v228 := Try.zeroValue132
 t229 := Try.underlying133
 a229 := Try.isAgg133
 z229 := Try.sizeOf133
 v229 := Try.zeroValue133 }
open Go.Sort Go.RowKit in
theorem Try.slices_Sort_int (blk off cap : Nat) (zs : List Int) (w : World) (hH : Holds (Value.int .i64) w blk off zs.toArray) (hblk : blk < w.heap.size) (hsz : zs.length < 4611686018427387904) :
 Calls Try.prog 79 #[.slice (some ⟨blk, off, none⟩) zs.length cap] w fun e w' =>
  e = .returned (.tuple #[]) ∧ ∃ n os, w' = grow (putRow (Value.int .i64) (Sort.ahead w n) blk off (zs.mergeSort fun x y => decide (x ≤ y)).toArray) os := Any.slices_Sort_int Try.lays189 blk off cap zs w hH hblk hsz
def Try.laysNm220_ren : Go.Shelf.Ren := ⟨fun | 20 => 80 | n => n, fun | 22 => 22 | 3 => 3 | 4 => 4 | 0 => 0 | n => n, fun | n => n⟩
theorem Try.laysNm220 : Go.Proofs.Lays2.n20 Try.prog Try.laysNm220_ren := {
 mixed := by kernel_rfl
 f20 := Try.func80.trans (congrArg some (by kernel_rfl))
 t0 := Try.underlying0
 a0 := Try.isAgg0
 z0 := Try.sizeOf0
 v0 := Try.zeroValue0
 t3 := Try.underlying3
 a3 := Try.isAgg3
 z3 := Try.sizeOf3
 v3 := Try.zeroValue3
 t4 := Try.underlying4
 a4 := Try.isAgg4
 z4 := Try.sizeOf4
 v4 := Try.zeroValue4
 t22 := Try.underlying22
 a22 := Try.isAgg22
 z22 := Try.sizeOf22
 v22 := Try.zeroValue22
 i3 := by kernel_rfl }
open Go.RowKit Go.Lib Go.Sort in
theorem Try.slices_Compact_int (blk off cap : Nat) (zs : List Int) (w : World) (hH : Holds (Value.int .i64) w blk off zs.toArray) (hsz : zs.length ≤ 9223372036854775807) (hcap : zs.length ≤ cap) :
 Calls Try.prog 80 #[.slice (some ⟨blk, off, none⟩) zs.length cap] w fun e w' => e = .returned (.slice (some ⟨blk, off, none⟩) (Lib.compact zs).length cap) ∧ ∃ q, w' = putRow (Value.int .i64) (Sort.ahead w q) blk off (Lib.compact zs ++ List.replicate (zs.length - (Lib.compact zs).length) 0).toArray := Any.slices_Compact_int Try.laysNm220 blk off cap zs w hH hsz hcap
open Go.RowKit Go.Lib Go.Sort in
theorem Try.slices_Compact_int_empty (a : Option Addr) (cap : Nat) (w : World) :
 Calls Try.prog 80 #[.slice a 0 cap] w fun e w' => e = .returned (.slice a 0 cap) ∧ w' = w := Any.slices_Compact_int_empty Try.laysNm220 a cap w
open Go.RowKit Go.Sort in
theorem Try.slices_Sort_int_none (p : Option Addr) (cap : Nat) (w : World) :
 Calls Try.prog 79 #[.slice p 0 cap] w fun e w' => e = .returned (.tuple #[]) ∧ w' = w := Any.slices_Sort_int_none Try.lays189 p cap w
end Go.Proofs
end
section
namespace Go.Proofs.Ytebehdjjkpffjaa.QPlans
open Go.RowKit Go.Proofs.YtebehdjjkpffjaaW.PrintWords Go.Proofs.YtebehdjjkpffjaaW.PrintLast Go.Proofs.YtebehdjjkpffjaaW.PrintMore
def RowI (w : World) (base : Nat) (v : Value) (l : List Int) : Prop := w.ownsRow base 3 1 v l.length (nums .i64 l)
theorem RowI.R {w : World} {base : Nat} {v : Value} {l : List Int} (h : RowI w base v l) : Kd.R (Kd.int .i64) 3 w base (fun _ => True) v l := Kd.R_of_own (enc := Value.int .i64) (h1 := fun _ => rfl) h (fun _ _ => trivial)
theorem RowI.of_R {w : World} {base : Nat} {ok : Nat → Prop} {v : Value} {l : List Int} (h : Kd.R (Kd.int .i64) 3 w base ok v l) : RowI w base v l := Kd.own_of_R (enc := Value.int .i64) (h1 := fun _ => rfl) h
theorem RowI.reads {w : World} {base : Nat} {v : Value} {l : List Int} (h : RowI w base v l) : ∃ A c, v = .slice A l.length c ∧ l.length ≤ c ∧ Kd.C (Kd.int .i64) w A l.length l := Kd.R_reads h.R
theorem RowI.reads' {w : World} {base : Nat} {A : Option Addr} {n c : Nat} {l : List Int} (h : RowI w base (.slice A n c) l) : n = l.length ∧ n ≤ c ∧ Kd.C (Kd.int .i64) w A l.length l := Kd.zO h.R
theorem RowI.lower {w : World} {b b' : Nat} {v : Value} {l : List Int} (h : RowI w b v l) (hb : b' ≤ b) : RowI w b' v l := by
 obtain ⟨h1, h2⟩ := h
 refine ⟨h1, ?_⟩
 rcases h2 with h2 | ⟨g, cap, cur, hv, hg, r⟩
 ·exact .inl h2
 ·exact .inr ⟨g, cap, cur, hv, by omega, r⟩
set_option maxHeartbeats 400000 in
theorem CloneI (A : Option Addr) (c : Nat) (l : List Int) (w : World) (hr : Kd.C (Kd.int .i64) w A l.length l) (hn : l.length * 8 ≤ 140737488355328) :
  Calls Try.prog 58 #[.slice A l.length c] w fun e w' => ∃ v, e = .returned v ∧ RowI w' w.heap.size v l ∧ Below w.heap.size w w' := by
 have heq := fun (w : World) (a : Option Addr) (n c : Nat) => Lib.run_eql_slice_nil (P := Try.prog) w 22 3 a n c 0 0 Try.underlying22
 cases A with
 | none =>
  have h0 : l.length = 0 := by
   rcases Nat.eq_zero_or_pos l.length with h | h
   ·exact h
   ·obtain ⟨ad, h, _⟩ := hr.2.2 h
    cases h
  obtain rfl : l = [] := List.eq_nil_of_length_eq_zero h0
  clear hr hn h0
  go_enter Try.func58, Try.ntmps58
  go_wp2
  go_ret
  exact ⟨_, rfl, own_nil _ _ _ _, Below.refl _ _⟩
 | some ad =>
  have HR := za.mk hr
  have HN := za.mk hn
  clear hr hn
  go_enter Try.func58, Try.ntmps58
  have HO := za.mk (RowI.R (l := []) (own_lit w w.heap.size 3 .i64 [] (Nat.le_refl _) (by simp)))
  have HA := za.mk (Kd.qB HR.out (zf (Below.refl _ _) (.cells (nums .i64 []).toArray 3)))
  clear HR
  go_wp2_with (first | ((with_reducible refine Zb (b := .append) (xs := #[.tmp 5, .tmp 6]) rfl ?_); at_builtin; refine Kd.R_append_rows (Kd.int .i64) (w0 := w) w.heap.size rfl (.tmp 5) (.tmp 6) 22 3 (.int .i64 0) 8 rfl Try.underlying22 info3 rfl (by decide) (by omega) (.slice (some ⟨w.heap.size, 0, none⟩) 0 0) [] l _ _ _ (fun _ => True) (fun _ => False) rfl rfl ?aO ?aR (fun _ _ h => h) (fun _ h => h.elim) ?aF ?aB ?aS ?aL ?_; (case aO => exact HO.out); (case aR => exact HA.out); (case aF => exact fun _ _ => trivial); (case aB => exact zf (Below.refl _ _) _); (case aS => simp); (case aL => have := HN.out; simp; omega); intro v1 w1 ho hb hg hat; have H1 := za.mk ho; have H2 := za.mk hb; clear ho hb hg hat))
  go_ret
  exact ⟨_, rfl, RowI.of_R H1.out, H2.out⟩
theorem srt_length (l : List Int) : (l.mergeSort fun x y => decide (x ≤ y)).length = l.length := List.length_mergeSort l
theorem SortI (base : Nat) (v : Value) (l : List Int) (w : World) (h : RowI w base v l) (hl : l.length < 4611686018427387904) :
  Calls Try.prog 79 #[v] w fun e w' => e = .returned (.tuple #[]) ∧ RowI w' base v (l.mergeSort fun x y => decide (x ≤ y)) ∧ w.grownBy w' v.ownBlock := by
 rcases h.2 with ⟨rfl, h0⟩ | ⟨g, cap, cur, rfl, hbase, hb, h1, h2, h3, h4⟩
 ·obtain rfl : l = [] := List.eq_nil_of_length_eq_zero h0
  refine (Try.slices_Sort_int_none none 0 w).mono ?_
  rintro e w' ⟨rfl, rfl⟩
  exact ⟨rfl, by simpa using h, World.grownBy.refl _ _⟩
 ·have hH : Go.Sort.Holds (Value.int .i64) w g 0 l.toArray := holds_of_blockI hb (by simpa [nums] using h4)
  refine (Try.slices_Sort_int g 0 cap l w hH (Array.getElem?_eq_some_iff.1 hb).1 hl).mono ?_
  rintro e w' ⟨rfl, n, os, rfl⟩
  refine ⟨rfl, ?_, grownBy_sortedI _⟩
  have := ownsRow_sortedI (n := n) (os := os) (ss := l) (ts := l.mergeSort fun x y => decide (x ≤ y)) (srt_length l) hbase hb h1 h2 h3
  unfold RowI
  rw [srt_length]
  exact this
def IsHs (s : List Int) (k : Nat) : Prop := k ≤ s.length ∧ (∀ j, j < k → (j : Int) < s.getD (s.length - 1 - j) 0) ∧ (k < s.length → s.getD (s.length - 1 - k) 0 ≤ k)
theorem IsHs.unique {s : List Int} {a b : Nat} (ha : IsHs s a) (hb : IsHs s b) : a = b := by
 rcases Nat.lt_trichotomy a b with h | h | h
 ·have h1 := hb.2.1 a h
  have h2 := ha.2.2 (by have := hb.1; omega)
  omega
 ·exact h
 ·have h1 := ha.2.1 b h
  have h2 := hb.2.2 (by have := ha.1; omega)
  omega
def hscan (s : List Int) : Nat → Nat → Nat
 | 0, h => h
 | d + 1, h => if (h : Int) < s.getD (s.length - 1 - h) 0 then hscan s d (h + 1) else h
theorem hscan_is (s : List Int) : ∀ d h, h + d = s.length → (∀ j, j < h → (j : Int) < s.getD (s.length - 1 - j) 0) → IsHs s (hscan s d h) := by
 intro d
 induction d with
 | zero => intro h hd hj; exact ⟨by simp [hscan]; omega, hj, fun h' => absurd h' (by simp [hscan]; omega)⟩
 | succ d ih =>
  intro h hd hj
  simp only [hscan]
  split
  ·rename_i hlt
   exact ih (h + 1) (by omega) (fun j hj' => by
    by_cases e : j = h
    ·subst e; exact hlt
    ·exact hj j (by omega))
  ·rename_i hlt
   exact ⟨by omega, hj, fun _ => by omega⟩
def srt (l : List Int) : List Int := l.mergeSort fun x y => decide (x ≤ y)
def hix (l : List Int) : Nat := hscan (srt l) (srt l).length 0
theorem hix_is (l : List Int) : IsHs (srt l) (hix l) := hscan_is _ _ 0 (by omega) (fun j h => absurd h (by omega))
set_option maxHeartbeats 400000 in
theorem H_c (A : Option Addr) (c : Nat) (l : List Int) (w : World) (hr : Kd.C (Kd.int .i64) w A l.length l) (hn : l.length * 8 ≤ 140737488355328) :
  Calls Try.prog 64 #[.slice A l.length c] w fun e w' => e = .returned (.int .i64 (hix l)) ∧ Below w.heap.size w w' := by
 have HC := za.mk (CloneI A c l w hr hn)
 have hsl : (srt l).length = l.length := srt_length l
 have HN := za.mk hn
 clear hr hn
 go_enter Try.func64, Try.ntmps64
 go_wp2_with fail
 refine HC.out.mono ?_
 rintro e w1 ⟨v, rfl, hv, hb⟩
 have HV := za.mk hv
 have HB := za.mk hb
 clear hv hb
 go_wp2_with fail
 refine (SortI w.heap.size v l w1 HV.out (by have := HN.out; omega)).mono ?_
 rintro e w2 ⟨rfl, hs, hg⟩
 have HB2 := za.mk (HB.out.grown hg HB.out.size (Za HV.out))
 have hs' : RowI w2 w.heap.size v (srt l) := hs
 have HS := za.mk hs'
 clear hs hg hs' HV
 obtain ⟨A2, c2, rfl, hl2, hr2⟩ := HS.out.reads
 have HR2 := za.mk hr2
 clear hr2 hl2
 have HU := za.mk hsl
 have hbig : (srt l).length ≤ 140737488355328 := by have := HN.out; omega
 clear hsl
 have HI := za.mk (hix_is l)
 generalize srt l = s at *
 go_wp2
 go_loopg [3] s.length (fun gg s3 wr => ∃ kk : Nat, kk ≤ s.length ∧ s.length - kk ≤ gg ∧ s3 = .int .i64 kk ∧ za (wr = w2) ∧ za (∀ j, j < kk → (j : Int) < s.getD (s.length - 1 - j) 0))
 case atStart => exact ⟨0, Nat.zero_le _, by omega, rfl, ⟨rfl⟩, ⟨fun j h => absurd h (by omega)⟩⟩
 case round =>
  obtain ⟨kk, hkk, hgg, rfl, HW, HJ⟩ := hrel
  obtain rfl := HW.out
  by_cases hlt : kk < s.length
  ·obtain ⟨ad, e, hx⟩ := intAt HR2.out (s.length - 1 - kk) (by omega)
   cases e
   have hltb : decide ((kk : Int) < (s.length : Int)) = true := by simp; omega
   have hD : s[s.length - 1 - kk] = s.getD (s.length - 1 - kk) 0 := by simp [List.getD_eq_getElem?_getD, show s.length - 1 - kk < s.length by omega]
   have HD := za.mk hD
   clear hD
   generalize s[s.length - 1 - kk] = y at *
   by_cases hy : (kk : Int) < y
   ·have hyb : decide ((kk : Int) < y) = true := decide_eq_true hy
    go_wp2
    go_roundg (s.length - (kk + 1))
    case measure => omega
    case rel =>
     refine ⟨kk + 1, by omega, by omega, by go_num, ⟨rfl⟩, ⟨fun j hj => ?_⟩⟩
     by_cases e : j = kk
     ·subst e; rw [← HD.out]; exact hy
     ·exact HJ.out j (by omega)
   ·have hyb : decide ((kk : Int) < y) = false := decide_eq_false hy
    go_wp2
    go_ret
    have : kk = hix l := IsHs.unique (s := s) ⟨by omega, HJ.out, fun _ => by rw [← HD.out]; omega⟩ HI.out
    exact ⟨by rw [this]; rfl, HB2.out⟩
  ·have hk : kk = s.length := by omega
   have hltb : decide ((kk : Int) < (s.length : Int)) = false := by simp; omega
   have HK := za.mk hk
   clear hk
   go_wp2
   go_ret
   have : kk = hix l := IsHs.unique (s := s) ⟨by omega, HJ.out, fun h => absurd h (by omega)⟩ HI.out
   exact ⟨by rw [this]; rfl, HB2.out⟩
end Go.Proofs.Ytebehdjjkpffjaa.QPlans
end
section
namespace Go.Proofs.Ytebehdjjkpffjaa.QPlans
open Go.RowKit Go.Proofs.YtebehdjjkpffjaaW.PrintWords Go.Proofs.YtebehdjjkpffjaaW.PrintLast Go.Proofs.YtebehdjjkpffjaaW.PrintMore
def ZN (nv : List Int) (ks : List Int) : List Int := nv.map (fun x => rd ks x)
def step1 (near : List (List Int)) (owner : List Int) (own : Int) (ks : List Int) (v : Nat) : List Int :=
 if owner.getD v 0 = own ∧ (hix (ZN (near.getD v []) ks) : Int) < ks.getD v 0 then ks.set v (hix (ZN (near.getD v []) ks)) else ks
def Qc (near : List (List Int)) (owner : List Int) (own : Int) (ks : List Int) (m : Nat) : List Int := (List.range m).foldl (step1 near owner own) ks
def pass (near : List (List Int)) (owner : List Int) (own : Int) (ks : List Int) : List Int := Qc near owner own ks near.length
theorem passTo_succ (near : List (List Int)) (owner : List Int) (own : Int) (ks : List Int) (m : Nat) : Qc near owner own ks (m + 1) = step1 near owner own (Qc near owner own ks m) m := by
 unfold Qc
 rw [List.range_succ, List.foldl_append]
 rfl
def mass (ks : List Int) : Nat := (ks.map Int.toNat).sum
theorem mass_set (ks : List Int) (v : Nat) (h : Nat) (hv : v < ks.length) (hlt : (h : Int) < ks[v]) : mass (ks.set v h) < mass ks := by
 induction ks generalizing v with
 | nil => simp at hv
 | cons a r ih =>
  cases v with
  | zero =>
   simp only [List.getElem_cons_zero] at hlt
   simp only [mass, List.set_cons_zero, List.map_cons, List.sum_cons]
   omega
  | succ v =>
   simp only [List.getElem_cons_succ] at hlt
   have := ih v (by simpa using hv) hlt
   simp only [mass, List.set_cons_succ, List.map_cons, List.sum_cons] at *
   omega
theorem step1_length (near : List (List Int)) (owner : List Int) (own : Int) (ks : List Int) (v : Nat) : (step1 near owner own ks v).length = ks.length := by
 unfold step1; split <;> simp
theorem passTo_length (near : List (List Int)) (owner : List Int) (own : Int) (ks : List Int) (m : Nat) : (Qc near owner own ks m).length = ks.length := by
 induction m with
 | zero => rfl
 | succ m ih => rw [passTo_succ, step1_length, ih]
theorem step1_mass (near : List (List Int)) (owner : List Int) (own : Int) (ks : List Int) (v : Nat) : step1 near owner own ks v = ks ∨ mass (step1 near owner own ks v) < mass ks := by
 unfold step1
 split
 ·rename_i h
  right
  rcases Nat.lt_or_ge v ks.length with hv | hv
  ·refine mass_set ks v _ hv ?_
   have := h.2
   simpa [List.getD_eq_getElem?_getD, hv] using this
  ·have := h.2
   simp [List.getD_eq_getElem?_getD, hv] at this
   omega
 ·exact .inl rfl
theorem passTo_mass (near : List (List Int)) (owner : List Int) (own : Int) (ks : List Int) (m : Nat) : Qc near owner own ks m = ks ∨ mass (Qc near owner own ks m) < mass ks := by
 induction m with
 | zero => exact .inl rfl
 | succ m ih =>
  rw [passTo_succ]
  rcases step1_mass near owner own (Qc near owner own ks m) m with h | h
  ·rw [h]; exact ih
  ·rcases ih with h2 | h2
   ·rw [h2] at h ⊢; exact .inr h
   ·exact .inr (by omega)
def settleN (near : List (List Int)) (owner : List Int) (own : Int) : Nat → List Int → List Int
 | 0, ks => ks
 | n + 1, ks => if pass near owner own ks = ks then ks else settleN near owner own n (pass near owner own ks)
def settled (near : List (List Int)) (owner : List Int) (own : Int) (ks : List Int) : List Int := settleN near owner own (mass ks + 1) ks
theorem settleN_enough (near : List (List Int)) (owner : List Int) (own : Int) : ∀ (n m : Nat) (ks : List Int), mass ks < n → mass ks < m → settleN near owner own n ks = settleN near owner own m ks := by
 intro n
 induction n with
 | zero => intro m ks h; omega
 | succ n ih =>
  intro m ks hn hm
  cases m with
  | zero => omega
  | succ m =>
   simp only [settleN]
   split
   ·rfl
   ·rename_i h
    rcases passTo_mass near owner own ks near.length with h2 | h2
    ·exact absurd h2 h
    ·exact ih m _ (by unfold pass; omega) (by unfold pass; omega)
theorem settled_fix (near : List (List Int)) (owner : List Int) (own : Int) (ks : List Int) (h : pass near owner own ks = ks) : settled near owner own ks = ks := by
 simp [settled, settleN, h]
theorem settled_pass (near : List (List Int)) (owner : List Int) (own : Int) (ks : List Int) : settled near owner own (pass near owner own ks) = settled near owner own ks := by
 by_cases h : pass near owner own ks = ks
 ·rw [h]
 ·have h2 : mass (pass near owner own ks) < mass ks := by
   rcases passTo_mass near owner own ks near.length with h2 | h2
   ·exact absurd h2 h
   ·exact h2
  have e : settled near owner own ks = settleN near owner own (mass ks) (pass near owner own ks) := by
   simp only [settled, settleN]
   rw [if_neg h]
  rw [e]
  exact settleN_enough _ _ _ _ _ _ (by omega) h2
end Go.Proofs.Ytebehdjjkpffjaa.QPlans
end
section
namespace Go.Proofs.Ytebehdjjkpffjaa.QPlans
open Go.RowKit Go.Proofs.YtebehdjjkpffjaaW.PrintWords Go.Proofs.YtebehdjjkpffjaaW.PrintLast Go.Proofs.YtebehdjjkpffjaaW.PrintMore
theorem rowAt {w : World} {A : Option Addr} {n : Nat} {l : List (List Int)} (h : Kd.C (Kd.slice 3 (Kd.int .i64)) w A n l) (k : Nat) (hk : k < l.length) :
  ∃ ad A0 c0, A = some ad ∧ w.cell? (ad.add k) = some (.slice A0 l[k].length c0) ∧ l[k].length ≤ c0 ∧ Kd.C (Kd.int .i64) w A0 l[k].length l[k] := by
 have hn : l.length = n := h.1
 obtain ⟨ad, A0, c0, e, hx, hl, hr⟩ := at_L2 h (k : Int) (by omega) (by omega)
 have e2 : rd_L2 l (k : Int) = l[k] := by simp [rd_L2, List.getD_eq_getElem?_getD, hk]
 rw [Int.toNat_natCast, e2] at hx
 rw [e2] at hl hr
 exact ⟨ad, A0, c0, e, hx, hl, hr⟩
theorem rowAtF {w : World} {ok : Nat → Prop} {A : Option Addr} {n : Nat} {l : List (List Int)} (h : Kd.F (Kd.slice 3 (Kd.int .i64)) w ok A n l) (k : Nat) (hk : k < l.length) :
  ∃ ad A0 c0, A = some ad ∧ w.cell? (ad.add k) = some (.slice A0 l[k].length c0) ∧ l[k].length ≤ c0 ∧ Kd.F (Kd.int .i64) w ok A0 l[k].length l[k] := by
 have hn : l.length = n := Kd.F_len h
 obtain ⟨ad, c, e, _, hK, hc, _⟩ := Kd.F_get h ([] : List Int) (k : Int) (by omega) (by omega)
 have e2 : l.getD (k : Int).toNat [] = l[k] := by simp [List.getD_eq_getElem?_getD, hk]
 rw [e2] at hK
 obtain ⟨A0, c0, rfl, hl, hF⟩ := Kd.FK_slice_open hK
 have h0 := hc 0 _ rfl
 rw [Int.toNat_natCast] at h0
 exact ⟨ad, A0, c0, e, by simpa [Kd.slice] using h0, hl, hF⟩
theorem grown_below {w W W1 : World} {row : Option Nat} {B : Nat} (h : w.grownBy W row) (k : Below B W W1) (hB : w.heap.size ≤ B) : w.grownBy W1 row :=
 ⟨k.os.trans h.os, k.tape.trans h.tape, k.output.trans h.output, Nat.le_trans h.size k.size, fun j hj hne => (k.block j (Nat.lt_of_lt_of_le hj hB)).trans (h.block j hj hne)⟩
theorem qZ {α : Type} {d : Kd α} {W W1 : World} {ok : Nat → Prop} {A : Option Addr} {n B : Nat} {xs : List α} (h : Kd.F d W ok A n xs) (hb : Below B W W1) (hok : ∀ k, ok k → k < B) : Kd.F d W1 ok A n xs :=
 Kd.F_step h (fun k hk _ => hb.block k (hok k hk))
theorem RowI.belowB {w w1 : World} {base B : Nat} {v : Value} {l : List Int} (h : RowI w base v l) (hb : Below B w w1) (hv : ∀ k, v.ownBlock = some k → k < B) : RowI w1 base v l :=
 own_move h (fun k hk => hb.block k (hv k hk))
theorem RowI.store {w : World} {base : Nat} {ad : Addr} {n c : Nat} {l : List Int} (h : RowI w base (.slice (some ad) n c) l) (i : Nat) (hi : i < l.length) (x : Int) :
  w.cell? (ad.add i) = some (.int .i64 l[i]) ∧ w.frozen? (ad.add i) = false ∧ RowI (w.setCell (ad.add i) (.int .i64 x)) base (.slice (some ad) n c) (l.set i x) ∧ w.grownBy (w.setCell (ad.add i) (.int .i64 x)) (Value.slice (some ad) n c).ownBlock := by
 obtain ⟨hl, _, _⟩ := h.reads'
 subst hl
 obtain ⟨g, cap, e, _, _⟩ := World.ownsRow.form h (by omega)
 injection e with e1 e2 e3
 injection e1 with e1
 subst e1 e3
 obtain ⟨h1, h2⟩ := own_at h (i : Int) (by omega) (by omega)
 have h3 := own_store h (i : Int) x
 rw [Int.toNat_natCast] at h1 h2 h3
 rw [add_plain]
 refine ⟨by rw [h1, Zv _ _ hi], h2, ?_, h3.2⟩
 unfold RowI
 rw [List.length_set]
 exact h3.1
structure Shape (near : List (List Int)) (owner : List Int) (n : Nat) : Prop where
 nl : near.length = n
 ol : owner.length = n
 small : n ≤ 1000000
 rows : ∀ l ∈ near, l.length ≤ 1000000
 nodes : ∀ l ∈ near, ∀ x ∈ l, 0 ≤ x ∧ x < n
theorem grown_drewN {w W : World} {row : Option Nat} (h : w.grownBy W row) (n : Nat) : w.grownBy (W.drewN n) row := ⟨h.os, h.tape, h.output, h.size, h.block⟩
theorem RowI.drewN {w : World} {base : Nat} {v : Value} {l : List Int} (h : RowI w base v l) (n : Nat) : RowI (w.drewN n) base v l := pw_own_drewN h n
set_option maxHeartbeats 1600000 in
set_option maxRecDepth 100000 in
theorem settle_c (wk : Int) (Ao : Option Addr) (co : Nat) (owner : List Int) (Ah : Option Addr) (nh ch : Nat) (An : Option Addr) (cn : Nat) (near : List (List Int)) (own : Int) (v : Value) (ks : List Int) (base : Nat) (w : World)
  (sh : Shape near owner ks.length) (ok : Nat → Prop) (hok : ∀ k, ok k → some k ≠ v.ownBlock) (ho : Kd.F (Kd.int .i64) w ok Ao owner.length owner) (hn : Kd.F (Kd.slice 3 (Kd.int .i64)) w ok An near.length near) (hv : RowI w base v ks) :
  Calls Try.prog 36 #[.agg #[.int .i64 wk, .slice Ao owner.length co, .slice Ah nh ch, .slice An near.length cn, .int .i64 own, v]] w fun e w' =>
   e = .returned (.tuple #[]) ∧ RowI w' base v (settled near owner own ks) ∧ w.grownBy w' v.ownBlock := by
 have hnl : near.length ≤ 1000000 := by have := sh.nl; have := sh.small; omega
 have HO := za.mk (Kd.F_bound ho)
 have HN := za.mk (Kd.F_bound hn)
 have HS := za.mk sh
 have HV := za.mk hv
 have HOK := za.mk (show ∀ k, (ok k ∧ k < w.heap.size) → some k ≠ v.ownBlock from fun k hk => hok k hk.1)
 have HVL := za.mk (own_lt hv)
 clear ho hn sh hv hok
 go_enter Try.func36, Try.ntmps36
 go_wp2_with fail
 obtain ⟨Av, cv, rfl, _, _⟩ := HV.out.reads
 have HX := za.mk (heap_alloc_new w (.cells #[.int .i64 wk, .slice Ao owner.length co, .slice Ah nh ch, .slice An near.length cn, .int .i64 own, .slice Av ks.length cv] 79))
 have HG := za.mk (World.grownBy_alloc w (.cells #[.int .i64 wk, .slice Ao owner.length co, .slice Ah nh ch, .slice An near.length cn, .int .i64 own, .slice Av ks.length cv] 79) (Value.slice Av ks.length cv).ownBlock)
 have HV1 := za.mk (show RowI (w.alloc (.cells #[.int .i64 wk, .slice Ao owner.length co, .slice Ah nh ch, .slice An near.length cn, .int .i64 own, .slice Av ks.length cv] 79)) base (Value.slice Av ks.length cv) ks from World.ownsRow.alloc HV.out _)
 generalize w.alloc (.cells #[.int .i64 wk, .slice Ao owner.length co, .slice Ah nh ch, .slice An near.length cn, .int .i64 own, .slice Av ks.length cv] 79) = w1 at *
 go_loopg [2] (mass ks + 1) (fun gg s2 wr => ∃ (kc : List Int) (b : Bool), s2 = .bool b ∧ za (RowI wr base (.slice Av ks.length cv) kc) ∧ za (w.grownBy wr (Value.slice Av ks.length cv).ownBlock) ∧ za (wr.heap[w.heap.size]? = some (.cells #[.int .i64 wk, .slice Ao owner.length co, .slice Ah nh ch, .slice An near.length cn, .int .i64 own, .slice Av ks.length cv] 79 (0, 0))) ∧ za (kc.length = ks.length) ∧ za (settled near owner own kc = settled near owner own ks) ∧ za (b = false → pass near owner own kc = kc) ∧ za (mass kc + (if b then 1 else 0) ≤ gg))
 case atStart => exact ⟨ks, true, rfl, HV1, HG, HX, ⟨rfl⟩, ⟨rfl⟩, ⟨fun h => by cases h⟩, ⟨by simp⟩⟩
 case round =>
  clear HV1 HG HX HV
  obtain ⟨kc, b, rfl, HV, HG, HX, HL, HE, HF, HM⟩ := hrel
  cases b with
  | false =>
   go_wp2_with fail
   go_end0
   refine ⟨rfl, ?_, HG.out⟩
   rw [← HE.out, settled_fix _ _ _ _ (HF.out (by trivial))]
   exact HV.out
  | true =>
   have hz0 := ze HX.out 0
   have hz1 := ze HX.out 1
   have hz3 := ze HX.out 3
   have hz4 := ze HX.out 4
   have hz5 := ze HX.out 5
   go_wp2_with fail
   clear hz0 hz1 hz3 hz4 hz5
   go_loopg [2, 14] near.length (fun gg s2 s14 wr => ∃ (i : Nat), i ≤ near.length ∧ near.length - i ≤ gg ∧ s14 = .int .i64 i ∧ s2 = .bool (!decide (Qc near owner own kc i = kc)) ∧ za (RowI wr base (.slice Av ks.length cv) (Qc near owner own kc i)) ∧ za (w.grownBy wr (Value.slice Av ks.length cv).ownBlock) ∧ za (wr.heap[w.heap.size]? = some (.cells #[.int .i64 wk, .slice Ao owner.length co, .slice Ah nh ch, .slice An near.length cn, .int .i64 own, .slice Av ks.length cv] 79 (0, 0))))
   case atStart => exact ⟨0, Nat.zero_le _, by omega, rfl, by simp [Qc], HV, HG, HX⟩
   case round =>
    clear HV HG HX
    obtain ⟨i, hi, hgi, rfl, rfl, HV, HG, HX⟩ := hrel
    by_cases hlt : i < near.length
    ·obtain ⟨adn, A0, c0, e, hxn, hln, hrn⟩ := rowAtF (Kd.F_grown HN.out HG.out HOK.out) i hlt
     cases e
     have HRN := za.mk hrn
     have HLN := za.mk hln
     clear hrn hln
     have hio : i < owner.length := by have := HS.out.ol; have := HS.out.nl; omega
     obtain ⟨ado, e, hxo⟩ := intAt (Kd.F_now (Kd.F_grown HO.out HG.out HOK.out)) i hio
     cases e
     have hz0 := ze HX.out 0
     have hz1 := ze HX.out 1
     have hz3 := ze HX.out 3
     have hz4 := ze HX.out 4
     have hz5 := ze HX.out 5
     have hsm := HS.out.small
     have hib : (i : Int) < (near.length : Int) := by omega
     have hio' : (i : Int) < (owner.length : Int) := by omega
     have hi0 : (0 : Int) ≤ (i : Int) := by omega
     have EO := za.mk (show owner.getD i 0 = owner[i] by simp [List.getD_eq_getElem?_getD, hio])
     have EN := za.mk (show near.getD i [] = near[i] by simp [List.getD_eq_getElem?_getD, hlt])
     have HNR := za.mk (HS.out.rows _ (List.getElem_mem hlt))
     have HNN := za.mk (HS.out.nodes _ (List.getElem_mem hlt))
     generalize owner[i] = oi at *
     generalize near[i] = nv at *
     by_cases hown : oi = own
     ·have hob : (oi != own) = false := by simp [hown]
      have HOW := za.mk hown
      clear hown
      go_wp2_with fail
      go_quiet (fail)
      go_wp2_with fail
      have HV2 := za.mk (HV.out.drewN nq)
      have HG2 := za.mk (grown_drewN HG.out nq)
      have HX2 := za.mk (zk HX.out nq)
      have HRN2 := za.mk (Kd.F_drewN HRN.out nq)
      have hW0 : w.heap.size + 1 ≤ (wr.drewN nq).heap.size := qg HX2.out
      clear HV HG HX HRN hxn hxo hz0 hz1 hz3 hz4 hz5
      generalize wr.drewN nq = W0 at *
      generalize hkci : Qc near owner own kc i = kci at *
      have HKCI := za.mk hkci
      clear hkci
      have hkl : kci.length = ks.length := by rw [← HKCI.out, passTo_length]; exact HL.out
      have HKL := za.mk hkl
      clear hkl
      go_loopg [5, 31] nv.length (fun gg s5 s31 wr => ∃ (j : Nat), j ≤ nv.length ∧ nv.length - j ≤ gg ∧ s31 = .int .i64 j ∧ za (RowI wr (w.heap.size + 1) s5 (ZN (nv.take j) kci)) ∧ za (Below (w.heap.size + 1) W0 wr))
      case atStart => exact ⟨0, Nat.zero_le _, by omega, rfl, ⟨by simp [ZN, RowI]; exact own_nil _ _ _ _⟩, ⟨Below.refl _ _⟩⟩
      case round =>
       obtain ⟨j, hj, hgj, rfl, HSN, HB⟩ := hrel
       by_cases hjl : j < nv.length
       ·obtain ⟨ad2, e, hxv⟩ := intAt (Kd.F_now (qZ HRN2.out HB.out (fun k hk => by have := hk.2; omega))) j hjl
        cases e
        have hz2 := ze ((HB.out.block w.heap.size (by omega)).trans HX2.out) 2
        have hz5 := ze ((HB.out.block w.heap.size (by omega)).trans HX2.out) 5
        have HKR := za.mk (HV2.out.belowB HB.out (fun k hk => by have := HVL.out k hk; omega))
        have hjb : (j : Int) < (nv.length : Int) := by omega
        have HY := za.mk (HNN.out _ (List.getElem_mem hjl))
        have HT := za.mk (show ZN (nv.take (j + 1)) kci = ZN (nv.take j) kci ++ [rd kci nv[j]] by unfold ZN; rw [List.take_succ_eq_append_getElem hjl, List.map_append]; rfl)
        generalize nv[j] = y at *
        obtain ⟨m, rfl⟩ := Int.eq_ofNat_of_zero_le HY.out.1
        have hmk : m < kci.length := by have := HY.out.2; have := HKL.out; omega
        have hcK := HKR.out.reads'.2.2
        have hnvl := HNR.out
        obtain ⟨adk, e, hxk⟩ := intAt hcK m hmk
        cases e
        clear hcK
        have hmb : (m : Int) < (ks.length : Int) := by have := HY.out.2; omega
        rw [Zv _ _ hmk] at HT
        generalize kci[m] = z at *
        have HNL := za.mk (show (ZN (nv.take j) kci).length = j by unfold ZN; rw [List.length_map, List.length_take]; omega)
        go_wp2_with (first | ((with_reducible refine Zb (b := .append) (xs := #[.tmp 35, .tmp 41]) rfl ?_); at_builtin; refine Kd.ZU (Kd.int .i64) (w0 := W0) (w.heap.size + 1) rfl (.tmp 35) (.tmp 41) 22 3 (.int .i64 0) 8 rfl Try.underlying22 info3 rfl (by decide) (by omega) _ (ZN (nv.take j) kci) z [.int .i64 z] (fun _ => True) (fun _ => False) rfl rfl ?aP (fun _ hk => hk.elim) ?aF ?aO ?aB ?aS ?aL ?_; (case aP => rfl); (case aF => exact fun _ _ => trivial); (case aO => exact HSN.out.R); (case aB => exact HB.out); (case aS => have := HB.out.size; omega); (case aL => have := HNL.out; have := HNR.out; omega); intro v1 w1 ho hb hg hat; have H1 := za.mk (RowI.of_R ho); have H2 := za.mk hb; clear ho hb hg hat))
        go_roundg (nv.length - (j + 1))
        case measure => omega
        case rel => exact ⟨j + 1, by omega, by omega, by go_num, by rw [HT.out]; exact H1, H2⟩
       ·have hje : j = nv.length := by omega
        have HJE := za.mk hje
        have hjb : ¬ (j : Int) < (nv.length : Int) := by omega
        clear hje
        obtain ⟨A5, c5, rfl, hl5, hr5⟩ := HSN.out.reads
        have HNL := za.mk (show (ZN (nv.take j) kci).length = nv.length by unfold ZN; rw [List.length_map, List.length_take]; omega)
        have HST := za.mk (show ZN (nv.take j) kci = ZN nv kci by rw [HJE.out, List.take_length])
        have HH := za.mk (H_c A5 c5 _ wr hr5 (by have := HNL.out; have := HNR.out; omega))
        clear hr5 hl5
        go_wp2_with fail
        refine HH.out.mono ?_
        rintro e w5 ⟨rfl, hb5⟩
        have HB5 := za.mk (ZE HB.out (by have := HB.out.size; omega) hb5)
        have HKR := za.mk (HV2.out.belowB HB5.out (fun k hk => by have := HVL.out k hk; omega))
        have HX5 := za.mk ((HB5.out.block w.heap.size (by omega)).trans HX2.out)
        have HG5 := za.mk (grown_below HG2.out HB5.out (by omega))
        have hz2 := ze HX5.out 2
        have hz5 := ze HX5.out 5
        have hik : i < kci.length := by have := HKL.out; have := HS.out.nl; omega
        have hcK := HKR.out.reads'.2.2
        obtain ⟨adk, e, hxk⟩ := intAt hcK i hik
        cases e
        clear hcK hb5 HB HSN HH
        rw [HST.out]
        have HZ := za.mk (show kci.getD i 0 = kci[i] by simp [List.getD_eq_getElem?_getD, hik])
        have hmb : (i : Int) < (ks.length : Int) := by have := HKL.out; omega
        generalize kci[i] = z at *
        have HP := za.mk (passTo_succ near owner own kc i)
        rw [HKCI.out] at HP
        by_cases hlt2 : (hix (ZN nv kci) : Int) < z
        ·have HSTEP := za.mk (show step1 near owner own kci i = kci.set i (hix (ZN nv kci)) by
          unfold step1
          rw [EN.out, EO.out, HZ.out, if_pos ⟨HOW.out, hlt2⟩])
         rw [HSTEP.out] at HP
         have hlb := decide_eq_true hlt2
         obtain ⟨_, hfz, hrow, hgr⟩ := HKR.out.store i hik (hix (ZN nv kci))
         have HROW := za.mk hrow
         have HGR := za.mk hgr
         clear hrow hgr
         go_wp2_with fail
         have HNE := za.mk (show Qc near owner own kc (i + 1) ≠ kc by
          rw [HP.out]
          intro h
          have h1 := mass_set kci i (hix (ZN nv kci)) hik (by
           have := HZ.out
           rw [List.getD_eq_getElem?_getD, List.getElem?_eq_getElem hik] at this
           simp at this
           omega)
          rw [h] at h1
          rcases passTo_mass near owner own kc i with h2 | h2
          ·rw [HKCI.out] at h2; rw [h2] at h1; omega
          ·rw [HKCI.out] at h2; omega)
         go_roundg (near.length - (i + 1))
         case measure => omega
         case rel =>
          refine ⟨i + 1, by omega, by omega, by go_num, by simp [HNE.out], by rw [HP.out]; exact HROW, ⟨?_⟩, ⟨?_⟩⟩
          ·exact World.grownBy.trans HG5.out ⟨HGR.out.os, HGR.out.tape, HGR.out.output, HGR.out.size, HGR.out.block⟩
          ·exact (HGR.out.block w.heap.size (qg HX5.out) (fun e => by have := HVL.out _ e.symm; omega)).trans HX5.out
        ·have hlb := decide_eq_false hlt2
         have HSTEP := za.mk (show step1 near owner own kci i = kci by
          unfold step1
          rw [EN.out, EO.out, HZ.out, if_neg (fun h => hlt2 h.2)])
         rw [HSTEP.out] at HP
         go_wp2_with fail
         go_roundg (near.length - (i + 1))
         case measure => omega
         case rel => exact ⟨i + 1, by omega, by omega, by go_num, by rw [HP.out], by rw [HP.out]; exact HKR, HG5, HX5⟩
     ·have hob : (oi != own) = true := by simp [hown]
      have HOW := za.mk hown
      clear hown
      go_wp2_with fail
      go_quiet (fail)
      go_wp2_with fail
      go_roundg (near.length - (i + 1))
      case measure => omega
      case rel =>
       have e1 : Qc near owner own kc (i + 1) = Qc near owner own kc i := by
        rw [passTo_succ]
        unfold step1
        rw [if_neg (fun h => HOW.out (EO.out ▸ h.1))]
       exact ⟨i + 1, by omega, by omega, by go_num, by rw [e1], by rw [e1]; exact ⟨HV.out.drewN _⟩, ⟨grown_drewN HG.out _⟩, ⟨zk HX.out _⟩⟩
    ·have hie : i = near.length := by omega
     have HIE := za.mk hie
     have hib : ¬ (i : Int) < (near.length : Int) := by omega
     clear hie
     go_wp2_with fail
     have e1 : Qc near owner own kc i = pass near owner own kc := by rw [HIE.out]; rfl
     rw [e1] at HV ⊢
     go_roundg (mass (pass near owner own kc) + (if (!decide (pass near owner own kc = kc)) = true then 1 else 0))
     case measure =>
      have := HM.out
      rcases passTo_mass near owner own kc near.length with h | h
      ·have h' : pass near owner own kc = kc := h
       simp [h']
       simp at this
       omega
      ·have h' : mass (pass near owner own kc) < mass kc := h
       simp at this
       split <;> omega
     case rel =>
      refine ⟨pass near owner own kc, !decide (pass near owner own kc = kc), rfl, HV, HG, HX, ⟨by unfold pass; rw [passTo_length]; exact HL.out⟩, ⟨by rw [settled_pass]; exact HE.out⟩, ⟨fun h => ?_⟩, ⟨Nat.le_refl _⟩⟩
      have h2 : pass near owner own kc = kc := by simpa using h
      rw [h2, h2]
end Go.Proofs.Ytebehdjjkpffjaa.QPlans
end
section
namespace Go.Proofs.Ytebehdjjkpffjaa.QPlans
open Go.RowKit Go.Proofs.YtebehdjjkpffjaaW.PrintWords Go.Proofs.YtebehdjjkpffjaaW.PrintLast Go.Proofs.YtebehdjjkpffjaaW.PrintMore
theorem compact_le (l : List Int) : (Lib.compact l).length ≤ l.length := by
 unfold Lib.compact Lib.compactUpTo
 rw [List.length_map]
 exact Nat.le_trans (List.length_filter_le _ _) (by simp)
theorem CompactI (base : Nat) (v : Value) (l : List Int) (w : World) (h : RowI w base v l) :
  Calls Try.prog 80 #[v] w fun e w' => ∃ v', e = .returned v' ∧ RowI w' base v' (Lib.compact l) ∧ w.grownBy w' v.ownBlock := by
 rcases h.2 with ⟨rfl, h0⟩ | ⟨g, cap, cur, rfl, hbase, hb, h1, h2, h3, h4⟩
 ·obtain rfl : l = [] := List.eq_nil_of_length_eq_zero h0
  refine (Try.slices_Compact_int_empty none 0 w).mono ?_
  rintro e w' ⟨rfl, rfl⟩
  exact ⟨_, rfl, own_nil _ _ _ _, World.grownBy.refl _ _⟩
 ·have hH : Go.Sort.Holds (Value.int .i64) w g 0 l.toArray := holds_of_blockI hb (by simpa [nums] using h4)
  refine (Try.slices_Compact_int g 0 cap l w hH (by have : maxLen = 9223372036854775807 := rfl; omega) h1).mono ?_
  rintro e w' ⟨rfl, q, rfl⟩
  have hg : w.grownBy (Go.Sort.putRow (Value.int .i64) (Go.Sort.ahead w q) g 0 (Lib.compact l ++ List.replicate (l.length - (Lib.compact l).length) 0).toArray) (Value.slice (some ⟨g, 0, none⟩) l.length cap).ownBlock :=
   grownBy_sortedI (os := #[]) _
  refine ⟨_, rfl, ?_, hg⟩
  have hll := compact_le l
  have := ownsRow_sortedI (n := q) (os := #[]) (ss := l) (ts := Lib.compact l ++ List.replicate (l.length - (Lib.compact l).length) 0) (by simp; omega) hbase hb h1 h2 h3
  have h5 := own_take (m := (Lib.compact l).length) this hll
  rw [Nat.mul_one, List.map_append, List.take_left' (by simp)] at h5
  exact h5
def Zt (owner nv : List Int) (v : Int) : List Int := (nv.map (rd owner)).filter (fun x => x != rd owner v)
def Zh (owner nv : List Int) (v : Int) : List Int := Lib.compact (srt (Zt owner nv v))
set_option maxHeartbeats 800000 in
set_option maxRecDepth 100000 in
theorem owners_c (wk : Int) (Ao : Option Addr) (co : Nat) (owner : List Int) (Ah : Option Addr) (nh ch : Nat) (An : Option Addr) (cn : Nat) (near : List (List Int)) (n : Nat) (v : Nat) (w : World)
  (sh : Shape near owner n) (hv : v < n) (ho : Kd.C (Kd.int .i64) w Ao owner.length owner) (hn : Kd.C (Kd.slice 3 (Kd.int .i64)) w An near.length near) :
  Calls Try.prog 65 #[.agg #[.int .i64 wk, .slice Ao owner.length co, .slice Ah nh ch, .slice An near.length cn], .int .i64 v] w fun e w' =>
   ∃ r, e = .returned r ∧ RowI w' w.heap.size r (Zh owner (near.getD v []) v) ∧ Below w.heap.size w w' := by
 have hvl : v < near.length := by have := sh.nl; omega
 have hvo : v < owner.length := by have := sh.ol; omega
 have hsm := sh.small
 obtain ⟨adn, A0, c0, e, hxn, hln, hrn⟩ := rowAt hn v hvl
 cases e
 obtain ⟨ado, e, hxo⟩ := intAt ho v hvo
 cases e
 have HR := za.mk hrn
 have HOW := za.mk ho
 have HS := za.mk sh
 have HNR := za.mk (sh.rows _ (List.getElem_mem hvl))
 have HNN := za.mk (sh.nodes _ (List.getElem_mem hvl))
 have EN := za.mk (show near.getD v [] = near[v] by simp [List.getD_eq_getElem?_getD, hvl])
 have EO := za.mk (show rd owner (v : Int) = owner[v] from Zv _ _ hvo)
 have HOL := za.mk sh.ol
 have hvb : (v : Int) < (near.length : Int) := by omega
 have hob : (v : Int) < (owner.length : Int) := by omega
 have hv0 : (0 : Int) ≤ (v : Int) := by omega
 rw [EN.out]
 generalize near[v] = nv at *
 generalize owner[v] = ov at *
 clear hn ho hrn hln sh EN
 have hc0 := World.block_lt_of_cell? w _ hxn
 have hc1 := World.block_lt_of_cell? w _ hxo
 go_enter Try.func65, Try.ntmps65
 go_wp2_with fail
 have HX := za.mk (heap_alloc_new w (.cells #[.int .i64 wk, .slice (some ado) owner.length co, .slice Ah nh ch, .slice (some adn) near.length cn] 75))
 have HBW := za.mk (zf (Below.refl w.heap.size w) (.cells #[.int .i64 wk, .slice (some ado) owner.length co, .slice Ah nh ch, .slice (some adn) near.length cn] 75))
 have hW1 : w.heap.size + 1 ≤ (w.alloc (.cells #[.int .i64 wk, .slice (some ado) owner.length co, .slice Ah nh ch, .slice (some adn) near.length cn] 75)).heap.size := qg HX.out
 generalize w.alloc (.cells #[.int .i64 wk, .slice (some ado) owner.length co, .slice Ah nh ch, .slice (some adn) near.length cn] 75) = W1 at *
 go_loopg [5, 14] nv.length (fun gg s5 s14 wr => ∃ (j : Nat), j ≤ nv.length ∧ nv.length - j ≤ gg ∧ s14 = .int .i64 j ∧ za (RowI wr (w.heap.size + 1) s5 (Zt owner (nv.take j) v)) ∧ za (Below (w.heap.size + 1) W1 wr))
 case atStart => exact ⟨0, Nat.zero_le _, by omega, rfl, ⟨by simp [Zt, RowI]; exact own_nil _ _ _ _⟩, ⟨Below.refl _ _⟩⟩
 case round =>
  obtain ⟨j, hj, hgj, rfl, HSN, HB⟩ := hrel
  have HBw := za.mk (show Below w.heap.size w wr from HBW.out.trans (HB.out.mono (by omega)))
  by_cases hjl : j < nv.length
  ·obtain ⟨ad2, e, hx2⟩ := intAt (Kd.qB HR.out HBw.out) j hjl
   cases e
   have HY := za.mk (HNN.out _ (List.getElem_mem hjl))
   have hz1 := ze ((HB.out.block w.heap.size (by omega)).trans HX.out) 1
   have hnvl := HNR.out
   have hjb : (j : Int) < (nv.length : Int) := by omega
   have HT := za.mk (show Zt owner (nv.take (j + 1)) v = Zt owner (nv.take j) v ++ (if rd owner nv[j] != rd owner v then [rd owner nv[j]] else []) by
    unfold Zt
    rw [List.take_succ_eq_append_getElem hjl, List.map_append, List.filter_append]
    simp only [List.map_cons, List.map_nil, List.filter_cons, List.filter_nil])
   generalize nv[j] = y at *
   obtain ⟨m, rfl⟩ := Int.eq_ofNat_of_zero_le HY.out.1
   have hmo : m < owner.length := by have := HY.out.2; have := HOL.out; omega
   obtain ⟨_, e, hx3⟩ := intAt (Kd.qB HOW.out HBw.out) m hmo
   cases e
   have hx4 := (HBw.out.cell (p := ado.add v) (by omega)).trans hxo
   have hmb : (m : Int) < (owner.length : Int) := by omega
   rw [Zv _ _ hmo, EO.out] at HT
   generalize owner[m] = z at *
   have HNL := za.mk (show (Zt owner (nv.take j) v).length ≤ j by unfold Zt; exact Nat.le_trans (List.length_filter_le _ _) (by rw [List.length_map, List.length_take]; omega))
   by_cases hzo : z = ov
   ·have hzb : (z != ov) = false := by simp [hzo]
    have HZO := za.mk hzb
    clear hzo
    go_wp2_with fail
    go_quiet (fail)
    go_wp2_with fail
    go_roundg (nv.length - (j + 1))
    case measure => omega
    case rel => exact ⟨j + 1, by omega, by omega, by go_num, ⟨by rw [HT.out, HZO.out]; simpa using HSN.out.drewN _⟩, ⟨zb HB.out _⟩⟩
   ·have hzb : (z != ov) = true := by simp [hzo]
    have HZO := za.mk hzb
    clear hzo
    go_wp2_with fail
    go_quiet (fail)
    have HSN2 := za.mk (HSN.out.drewN nq)
    have HB2 := za.mk (zb HB.out nq)
    clear HSN HB
    have hz1 : (wr.drewN nq).cell? ⟨w.heap.size, 1, none⟩ = some (.slice (some ado) owner.length co) := hz1
    have hx3 : (wr.drewN nq).cell? (ado.add m) = some (.int .i64 z) := hx3
    generalize wr.drewN nq = W2 at *
    go_wp2_with (first | ((with_reducible refine Zb (b := .append) (xs := #[.tmp 31, .tmp 38]) rfl ?_); at_builtin; refine Kd.ZU (Kd.int .i64) (w0 := W1) (w.heap.size + 1) rfl (.tmp 31) (.tmp 38) 22 3 (.int .i64 0) 8 rfl Try.underlying22 info3 rfl (by decide) (by omega) _ (Zt owner (nv.take j) v) z [.int .i64 z] (fun _ => True) (fun _ => False) rfl rfl ?aP (fun _ hk => hk.elim) ?aF ?aO ?aB ?aS ?aL ?_; (case aP => rfl); (case aF => exact fun _ _ => trivial); (case aO => exact HSN2.out.R); (case aB => exact HB2.out); (case aS => have := HB2.out.size; omega); (case aL => have := HNL.out; have := HNR.out; omega); intro v1 w1 ho hb hg hat; have H1 := za.mk (RowI.of_R ho); have H2 := za.mk hb; clear ho hb hg hat))
    go_roundg (nv.length - (j + 1))
    case measure => omega
    case rel => exact ⟨j + 1, by omega, by omega, by go_num, ⟨by rw [HT.out, HZO.out]; exact H1.out⟩, H2⟩
  ·have hje : j = nv.length := by omega
   have HJE := za.mk hje
   have hjb : ¬ (j : Int) < (nv.length : Int) := by omega
   have hnvl := HNR.out
   have HSN3 := za.mk (show RowI wr (w.heap.size + 1) _ (Zt owner nv v) by have := HSN.out; rw [HJE.out, List.take_length] at this; exact this)
   have HNL := za.mk (show (Zt owner nv v).length ≤ nv.length by unfold Zt; exact Nat.le_trans (List.length_filter_le _ _) (by rw [List.length_map]; omega))
   clear hje HSN
   go_wp2_with fail
   refine (SortI _ _ _ wr HSN3.out (by have := HNL.out; omega)).mono ?_
   rintro e w3 ⟨rfl, hs, hg⟩
   have HS3 := za.mk (show RowI w3 (w.heap.size + 1) _ (srt (Zt owner nv v)) from hs)
   have HB3 := za.mk (HB.out.grown hg (by have := HB.out.size; omega) (Za HSN3.out))
   clear hs hg
   go_wp2_with fail
   refine (CompactI _ _ _ w3 HS3.out).mono ?_
   rintro e w4 ⟨v4, rfl, hc, hg⟩
   have HC4 := za.mk hc
   have HB4 := za.mk (HB3.out.grown hg (by have := HB3.out.size; omega) (Za HS3.out))
   clear hc hg
   go_wp2_with fail
   go_ret
   exact ⟨_, rfl, HC4.out.lower (by omega), HBW.out.trans (HB4.out.mono (by omega))⟩
end Go.Proofs.Ytebehdjjkpffjaa.QPlans
end
section
namespace Go.Proofs.Ytebehdjjkpffjaa.QPlans
open Go.RowKit Go.Proofs.YtebehdjjkpffjaaW.PrintWords Go.Proofs.YtebehdjjkpffjaaW.PrintLast Go.Proofs.YtebehdjjkpffjaaW.PrintMore
def nilv : Value := .slice none 0 0
structure O2 {β : Type} (Row : World → Nat → Value → β → Prop) (dflt : β) (e1 : Nat) (w : World) (base : Nat) (v : Value) (vs us : List Value) (xss : List β) : Prop where
 top : w.ownsRow base e1 1 v vs.length vs
 lu : us.length = vs.length
 lx : xss.length = vs.length
 row : ∀ i, i < vs.length → Row w base (us.getD i nilv) (xss.getD i dflt)
 apart : ∀ i j, i < vs.length → j < vs.length → i ≠ j → (us.getD i nilv).ownBlock = none ∨ (us.getD i nilv).ownBlock ≠ (us.getD j nilv).ownBlock
structure RowLaw {β : Type} (Row : World → Nat → Value → β → Prop) (e0 sz : Nat) (cells : β → List Value) (len : β → Nat) : Prop where
 own : ∀ {w base v x}, Row w base v x ↔ w.ownsRow base e0 sz v (len x) (cells x)
theorem Qe {α : Type} (l : List α) (i j : Nat) (x d : α) (hi : i < l.length) : (l.set i x).getD j d = if i = j then x else l.getD j d := by
 simp only [List.getD_eq_getElem?_getD, List.getElem?_set]
 by_cases h : i = j
 ·subst h; simp [hi]
 ·simp [h]
section
variable {β : Type} {Row : World → Nat → Value → β → Prop} {dflt : β} {e1 e0 sz : Nat} {cells : β → List Value} {len : β → Nat} {w w1 : World} {base : Nat} {v v1 : Value} {vs us : List Value} {xss : List β} {ys : β}
theorem O2.append (L : RowLaw Row e0 sz cells len) (hne : e1 ≠ e0) (h : O2 Row dflt e1 w base v vs us xss) (i : Nat) (hi : i < vs.length) (hr : Row w1 base v1 ys)
  (hg : w.grownBy w1 (us.getD i nilv).ownBlock) (hat : v1.ownBlock = (us.getD i nilv).ownBlock ∨ ∃ b, v1.ownBlock = some b ∧ w.heap.size ≤ b) :
  O2 Row dflt e1 w1 base v vs (us.set i v1) (xss.set i ys) := by
 have hui : i < us.length := by have := h.lu; omega
 have hxi : i < xss.length := by have := h.lx; omega
 refine ⟨own_other h.top hg (Zx h.top (L.own.1 (h.row i hi)) hne), by rw [List.length_set]; exact h.lu, by rw [List.length_set]; exact h.lx, fun j hj => ?_, fun j k hj hk hjk => ?_⟩
 ·rw [Qe _ _ _ _ _ hui, Qe _ _ _ _ _ hxi]
  by_cases e : i = j
  ·subst e; rw [if_pos rfl, if_pos rfl]; exact hr
  ·rw [if_neg e, if_neg e]
   exact L.own.2 (own_other (L.own.1 (h.row j hj)) hg (h.apart j i hj hi (Ne.symm e)))
 ·rw [Qe _ _ _ _ _ hui, Qe _ _ _ _ _ hui]
  have hlt : ∀ m, m < vs.length → ∀ b, (us.getD m nilv).ownBlock = some b → b < w.heap.size := fun m hm b hb => own_lt (L.own.1 (h.row m hm)) b hb
  by_cases ej : i = j
  ·subst ej
   rw [if_pos rfl, if_neg hjk]
   rcases hat with hat | ⟨b, hb, hle⟩
   ·rw [hat]; exact h.apart _ _ hj hk hjk
   ·right
    rw [hb]
    intro e
    have := hlt k hk b e.symm
    omega
  ·rw [if_neg ej]
   by_cases ek : i = k
   ·subst ek
    rw [if_pos rfl]
    rcases hat with hat | ⟨b, hb, hle⟩
    ·rw [hat]; exact h.apart _ _ hj hk hjk
    ·right
     rw [hb]
     intro e
     have := hlt j hj b e
     omega
   ·rw [if_neg ek]; exact h.apart _ _ hj hk hjk
theorem O2.store (L : RowLaw Row e0 sz cells len) (hne : e1 ≠ e0) {ad : Addr} {n c : Nat} (h : O2 Row dflt e1 w base (.slice (some ad) n c) vs us xss) (i : Nat) (hi : i < vs.length) :
  w.cell? (ad.add i) = some (vs.getD i nilv) ∧ w.frozen? (ad.add i) = false ∧ O2 Row dflt e1 (w.setCell (ad.add i) (us.getD i nilv)) base (.slice (some ad) n c) (vs.set i (us.getD i nilv)) us xss ∧
   w.grownBy (w.setCell (ad.add i) (us.getD i nilv)) (Value.slice (some ad) n c).ownBlock := by
 have ht := h.top
 obtain ⟨g, cap, e, _, _⟩ := World.ownsRow.form ht (by omega)
 injection e with e1' e2 e3
 injection e1' with e1'
 subst e1' e2 e3
 have hc := ht.cells (g := g) rfl i (vs.getD i nilv) (by simp [List.getD_eq_getElem?_getD, hi])
 have hs := ht.stored i (us.getD i nilv)
 rw [add_plain] at hc ⊢
 have hfz : w.frozen? ⟨g, i, none⟩ = false := by
  rcases ht.2 with ⟨h', _⟩ | ⟨g', cap', cur, h', _, hh, _⟩
  ·cases h'
  ·have : g = g' := by injection h' with h'; injection h' with h'; injection h' with h'
   subst this
   simp [World.frozen?, hh]
 refine ⟨hc, hfz, ⟨by rw [List.length_set]; exact hs.1, by rw [List.length_set]; exact h.lu, by rw [List.length_set]; exact h.lx, fun j hj => ?_, fun j k hj hk => ?_⟩, hs.2⟩
 ·rw [List.length_set] at hj
  refine L.own.2 (own_other (L.own.1 (h.row j hj)) hs.2 ?_)
  exact Zx (L.own.1 (h.row j hj)) ht (Ne.symm hne)
 ·rw [List.length_set] at hj hk
  exact h.apart j k hj hk
theorem O2.below (L : RowLaw Row e0 sz cells len) (h : O2 Row dflt e1 w base v vs us xss) (hb : Below w.heap.size w w1) : O2 Row dflt e1 w1 base v vs us xss :=
 ⟨Qg h.top hb, h.lu, h.lx, fun i hi => L.own.2 (Qg (L.own.1 (h.row i hi)) hb), h.apart⟩
end
theorem lawI : RowLaw RowI 3 1 (nums .i64) List.length := ⟨Iff.rfl⟩
abbrev OI := O2 RowI ([] : List Int) 22
end Go.Proofs.Ytebehdjjkpffjaa.QPlans
end
section
namespace Go.Proofs.Ytebehdjjkpffjaa.QPlans
open Go
section
variable {P : Program} {ops : Array Oper} {Q : Exit → Act → World → Prop} {md : Region.Mode} {p : Nat} {S1 S2 : World → Prop}
def till (p : Nat) (S1 S2 : World → Prop) (l : Array Bool) (w : World) : Prop := if l.getD p false = true then S2 w else S1 w
def wpAnyL (P : Program) (md : Region.Mode) (ops : Array Oper) (Q : Exit → Act → World → Prop) (p : Nat) (S1 S2 : World → Prop) : Nat → Array Bool → Act → World → Prop
 | 0, listed, a, w => Region.ready md ops listed = [] ∧ Q .normal a w
 | fuel + 1, listed, a, w =>
  (Region.ready md ops listed = [] → Q .normal a w) ∧
  ∀ i ∈ Region.ready md ops listed, wpOp P ops Q i (fun a' w' => till p S1 S2 (listed.setIfInBounds i true) w' ∧ wpAnyL P md ops Q p S1 S2 fuel (listed.setIfInBounds i true) a' w') a w
theorem wpAny_of_L : ∀ (fuel : Nat) (listed : Array Bool) (a : Act) (w : World), wpAnyL P md ops Q p S1 S2 fuel listed a w → wpAny P md ops Q fuel listed a w
 | 0, _, _, _, h => h
 | fuel + 1, _, _, _, h => ⟨h.1, fun i hi => wpOp_mono (fun a' w' h' => wpAny_of_L fuel _ a' w' h'.2) (h.2 i hi)⟩
def Closed (md : Region.Mode) (ops : Array Oper) (l : Array Bool) : Prop :=
 l.size = ops.size ∧ ∀ (j : Nat) (o : Oper), ops[j]? = some o → l.getD j false = true → ∀ e ∈ o.after, Region.binds md e = true → l.getD e.on false = true
def waits (md : Region.Mode) (ops : Array Oper) (i : Nat) : Nat → Nat → Bool
 | 0, _ => false
 | f + 1, q => match ops[q]? with | none => false | some o => o.after.toList.any fun e => Region.binds md e && (e.on == i || waits md ops i f e.on)
theorem waits_listed {l : Array Bool} (hc : Closed md ops l) {i : Nat} : ∀ (f q : Nat), waits md ops i f q = true → l.getD q false = true → l.getD i false = true
 | 0, _, h, _ => by simp [waits] at h
 | f + 1, q, h, hq => by
  unfold waits at h
  split at h
  ·cases h
  ·rename_i o ho
   rw [List.any_eq_true] at h
   obtain ⟨e, he, h⟩ := h
   simp only [Bool.and_eq_true, Bool.or_eq_true, beq_iff_eq] at h
   have := hc.2 q o ho hq e (by simpa using he) h.1
   rcases h.2 with h2 | h2
   ·rw [← h2]; exact this
   ·exact waits_listed hc f _ h2 this
theorem Closed.set {l : Array Bool} (hc : Closed md ops l) {j : Nat} (hj : j ∈ Region.ready md ops l) : Closed md ops (l.setIfInBounds j true) := by
 refine ⟨by simpa using hc.1, fun k o ho hk e he hb => ?_⟩
 by_cases hkj : j = k
 ·subst hkj
  obtain ⟨_, o', ho', hall⟩ := mem_ready.1 hj
  rw [ho] at ho'; cases ho'
  exact getD_set_true (hall e he hb)
 ·rw [getD_set_ne false hkj] at hk
  exact getD_set_true (hc.2 k o ho hk e he hb)
theorem till_set {i : Nat} (hpi : i ≠ p) (l : Array Bool) (w : World) : till p S1 S2 (l.setIfInBounds i true) w = till p S1 S2 l w := by
 unfold till; rw [getD_set_ne false hpi]
theorem wpAnyL_first {T : World → Prop} {i : Nat} {oi : Oper} {v : Value} (hi : ops[i]? = some oi) (hip : i ≠ p)
  (hT1 : ∀ w, S1 w → T w) (hT2 : (∀ w, S2 w → T w) ∨ ∃ f, waits md ops i f p = true) (hsel : ∀ (j : Nat) (o : Oper) cs b, ops[j]? = some o → o.op ≠ .select cs b)
  (hQ : ∀ c a w, Q (.panic c) (a.put oi.dst v) w → Q (.panic c) a w) :
  ∀ (fuel : Nat) (listed : Array Bool) (a : Act) (w : World),
   (∀ j oj, ops[j]? = some oj → j ≠ i → listed.getD j true = false → (∀ e ∈ oj.after, Region.binds md e = true → e.on ≠ i) → oi.apart ops oj = true) →
   Closed md ops listed → i ∈ Region.ready md ops listed → YieldsIf P ops T oi v a → till p S1 S2 listed w →
   wpAnyL P md ops Q p S1 S2 fuel (listed.setIfInBounds i true) (a.put oi.dst v) w → wpAnyL P md ops Q p S1 S2 (fuel + 1) listed a w := by
 have hTw : ∀ (l : Array Bool) (w : World), Closed md ops l → l.getD i false = false → till p S1 S2 l w → T w := by
  intro l w hc hl h
  unfold till at h
  split at h
  ·rename_i hlp
   rcases hT2 with h2 | ⟨f, h2⟩
   ·exact h2 w h
   ·rw [waits_listed hc f p h2 hlp] at hl; cases hl
  ·exact hT1 w h
 intro fuel
 induction fuel with
 | zero =>
  intro listed a w _ hc hr hy hS H
  refine ⟨fun h => (by rw [h] at hr; cases hr), fun j hj => ?_⟩
  by_cases hji : j = i
  ·subst hji
   have h0 := (mem_ready.1 hr).1
   exact hy.wpOp hi (hTw _ _ hc (by rcases Nat.lt_or_ge j listed.size with h' | h' <;> simp [h'] at h0 ⊢; exact h0) hS) ⟨by rw [till_set hip]; exact hS, H⟩
  ·have := ready_mono hj hji
   rw [H.1] at this
   cases this
 | succ fuel ih =>
  intro listed a w hfree hc hr hy hS H
  have h0 := (mem_ready.1 hr).1
  have hiun : listed.getD i false = false := by rcases Nat.lt_or_ge i listed.size with h' | h' <;> simp [h'] at h0 ⊢; exact h0
  refine ⟨fun h => (by rw [h] at hr; cases hr), fun j hj => ?_⟩
  by_cases hji : j = i
  ·subst hji; exact hy.wpOp hi (hTw _ _ hc hiun hS) ⟨by rw [till_set hip]; exact hS, H⟩
  ·have h1 := H.2 j (ready_mono hj hji)
   obtain ⟨hjun, oj, hoj, hall⟩ := mem_ready.1 hj
   have hnot : ∀ e ∈ oj.after, Region.binds md e = true → e.on ≠ i := fun e he hb heq => by
    have h1 := hall e he hb
    rw [heq, hiun] at h1
    cases h1
   have h2 := wpOp_putIf hoj (hfree j oj hoj hji hjun hnot) (fun cs b => hsel i oi cs b hi) (fun cs b => hsel j oj cs b hoj) hQ hy h1
   have hfree' : ∀ k ok, ops[k]? = some ok → k ≠ i → (listed.setIfInBounds j true).getD k true = false →
     (∀ e ∈ ok.after, Region.binds md e = true → e.on ≠ i) → oi.apart ops ok = true := fun k ok hk hki hun hno => by
    refine hfree k ok hk hki ?_ hno
    by_cases hjk : j = k
    ·subst hjk; exact hjun
    ·rw [getD_set_ne true hjk] at hun; exact hun
   have hcomm : (listed.setIfInBounds i true).setIfInBounds j true = (listed.setIfInBounds j true).setIfInBounds i true := Array.setIfInBounds_comm _ _ (Ne.symm hji)
   refine wpOp_mono (fun a' w' h3 => ?_) h2
   rw [hcomm] at h3
   obtain ⟨h3y, h3s, h3w⟩ := h3
   rw [till_set hip] at h3s
   exact ⟨h3s, ih (listed.setIfInBounds j true) a' w' hfree' (hc.set hj) (ready_mono hr (Ne.symm hji)) h3y h3s h3w⟩
def closedB (md : Region.Mode) (ops : Array Oper) (l : Array Bool) : Bool :=
 l.size == ops.size && (List.range ops.size).all fun j => !l.getD j false || ((ops[j]?).map (·.after.toList.all fun e => !Region.binds md e || l.getD e.on false)).getD true
theorem Closed.ofB {l : Array Bool} (h : closedB md ops l = true) : Closed md ops l := by
 unfold closedB at h
 rw [Bool.and_eq_true, List.all_eq_true] at h
 refine ⟨by simpa using h.1, fun j o ho hj e he hb => ?_⟩
 have hlt : j < ops.size := (Array.getElem?_eq_some_iff.1 ho).1
 have := h.2 j (by simpa using hlt)
 rw [ho, hj] at this
 simp only [Bool.not_true, Bool.false_or, Option.map_some, Option.getD_some, List.all_eq_true] at this
 have := this e (by simpa using he)
 rw [hb] at this
 simpa using this
theorem zN (T : World → Prop) {i : Nat} {oi : Oper} {v : Value} {fuel : Nat} {listed : Array Bool} {a : Act} {w : World} (hi : ops[i]? = some oi)
  (hp : (i != p) = true) (hT1 : ∀ w, S1 w → T w) (hT2 : (∀ w, S2 w → T w) ∨ waits md ops i ops.size p = true)
  (hs : Region.noSelect ops = true) (hf : Region.free md ops listed i = true) (hr : (Region.ready md ops listed).contains i = true)
  (hQ : ∀ c a w, Q (.panic c) (a.put oi.dst v) w → Q (.panic c) a w) (hc : closedB md ops listed = true) (hl : listed.getD p false = false) (hy : YieldsIf P ops T oi v a) (hS : S1 w)
  (h : wpAnyL P md ops Q p S1 S2 fuel (listed.setIfInBounds i true) (a.put oi.dst v) w) : wpAnyL P md ops Q p S1 S2 (fuel + 1) listed a w :=
 wpAnyL_first hi (by simpa using hp) hT1 (hT2.imp id fun h => ⟨_, h⟩) (Region.noSelect_spec hs) hQ fuel listed a w (Region.free_spec hi hf) (.ofB hc) (by simpa using hr) hy (by unfold till; rw [if_neg (by rw [hl]; exact Bool.false_ne_true)]; exact hS) h
theorem qx {rs : List Nat} {fuel : Nat} {listed : Array Bool} {a : Act} {w : World} (hr : Region.ready md ops listed = rs) (hne : rs ≠ []) (hp : rs.contains p = false) (hl : listed.getD p false = false)
    (h : ∀ i ∈ rs, wpOp P ops Q i (fun a' w' => S1 w' ∧ wpAnyL P md ops Q p S1 S2 fuel (listed.setIfInBounds i true) a' w') a w) : wpAnyL P md ops Q p S1 S2 (fuel + 1) listed a w := by
  refine ⟨fun h0 => absurd (hr ▸ h0) hne, fun i hi => ?_⟩
  rw [hr] at hi
  refine wpOp_mono (fun a' w' hk => ⟨?_, hk.2⟩) (h i hi)
  have hip : i ≠ p := fun e => by subst e; have : rs.contains i = true := by simpa using hi
                                  rw [this] at hp; cases hp
  rw [till_set hip]
  unfold till
  rw [if_neg (by rw [hl]; exact Bool.false_ne_true)]
  exact hk.1
theorem wpAnyL_ofH : ∀ (fuel : Nat) (listed : Array Bool) (a : Act) (w : World), listed.getD p false = true → wpAnyH P md ops Q S2 fuel listed a w → wpAnyL P md ops Q p S1 S2 fuel listed a w
 | 0, _, _, _, _, h => h
 | fuel + 1, listed, _, _, hp, h => ⟨h.1, fun i hi => wpOp_mono (fun a' w' h' => by
  have hp' : (listed.setIfInBounds i true).getD p false = true := getD_set_true hp
  exact ⟨by unfold till; rw [if_pos hp']; exact h'.1, wpAnyL_ofH fuel _ a' w' hp' h'.2⟩) (h.2 i hi)⟩
theorem Zo {fuel : Nat} {listed : Array Bool} {a : Act} {w : World} (hr : Region.ready md ops listed = [p]) (hs : decide (p < listed.size) = true)
  (h : wpOp P ops Q p (fun a' w' => S2 w' ∧ wpAnyH P md ops Q S2 fuel (listed.setIfInBounds p true) a' w') a w) : wpAnyL P md ops Q p S1 S2 (fuel + 1) listed a w := by
 have hs' : p < listed.size := of_decide_eq_true hs
 have hp' : (listed.setIfInBounds p true).getD p false = true := by simp [hs']
 refine ⟨fun h0 => (by rw [hr] at h0; cases h0), fun i hi => ?_⟩
 rw [hr] at hi
 have hip : i = p := by simpa using hi
 subst hip
 exact wpOp_mono (fun a' w' hk => ⟨by unfold till; rw [if_pos hp']; exact hk.1, wpAnyL_ofH _ _ _ _ hp' hk.2⟩) h
theorem ZC (p : Nat) (S1 S2 : World → Prop) {id : Nat} {a : Act} {w : World} (hm : P.follows .mixedOrders = true)
  (h : wpAnyL P .any ops Q p S1 S2 ops.size (Array.replicate ops.size false) a w.drew) : (Code.region id ops true).wp P Q a w :=
 wp_region_any hm (wpAny_of_L _ _ _ _ h)
end
end Go.Proofs.Ytebehdjjkpffjaa.QPlans
end
section
namespace Go.Proofs.Ytebehdjjkpffjaa.QPlans
open Go.RowKit Go.Proofs.YtebehdjjkpffjaaW.PrintWords Go.Proofs.YtebehdjjkpffjaaW.PrintLast Go.Proofs.YtebehdjjkpffjaaW.PrintMore
theorem info22 : (Try.prog.info? 22).map (fun i => (i.zero, i.size, i.bytes)) = some (some (.slice none 0 0), 1, 24) := by kernel_rfl
def ZK (xss : List (List Int)) (e : S66) : List (List Int) :=
 (xss.set e.f0.toNat (xss.getD e.f0.toNat [] ++ [e.f1])).set e.f1.toNat (xss.getD e.f1.toNat [] ++ [e.f0])
def nbrs (n : Nat) (l : List S66) : List (List Int) := l.foldl ZK (List.replicate n [])
theorem nbrStep_length (xss : List (List Int)) (e : S66) : (ZK xss e).length = xss.length := by simp [ZK]
theorem nbrs_length (n : Nat) (l : List S66) : (nbrs n l).length = n := by
 unfold nbrs
 suffices ∀ xss : List (List Int), (l.foldl ZK xss).length = xss.length by rw [this]; simp
 induction l with
 | nil => intro _; rfl
 | cons e r ih => intro xss; rw [List.foldl_cons, ih, nbrStep_length]
theorem nbrs_snoc (n : Nat) (l : List S66) (e : S66) : nbrs n (l ++ [e]) = ZK (nbrs n l) e := by simp [nbrs, List.foldl_append]
def EdgesIn (n : Nat) (l : List S66) : Prop := ∀ e ∈ l, 0 ≤ e.f0 ∧ e.f0 < e.f1 ∧ e.f1 < n
theorem edgeAt {w : World} {A : Option Addr} {n : Nat} {l : List S66} (h : Kd.C k66 w A n l) (k : Nat) (hk : k < l.length) :
  ∃ ad, A = some ad ∧ w.cell? (ad.add (k * 2)) = some (.int .i64 l[k].f0) ∧ w.cell? ⟨(ad.add (k * 2)).block, (ad.add (k * 2)).off + 1, none⟩ = some (.int .i64 l[k].f1) := by
 have hn : l.length = n := h.1
 obtain ⟨ad, e, h0, h1⟩ := at_T66 h (k : Int) (by omega) (by omega)
 rw [Int.toNat_natCast, rd66_nat _ _ hk] at h0 h1
 exact ⟨ad, e, h0, h1⟩
theorem OI_made (W : World) (base n : Nat) (hb : base ≤ W.heap.size) (hn : n ≤ 9223372036854775807) : OI (W.alloc (.cells (madeCells #[.slice none 0 0] n) 22)) base (.slice (some ⟨W.heap.size, 0, none⟩) n n) (List.replicate n nilv) (List.replicate n nilv) (List.replicate n []) := by
 have h := World.ownsRow_lit (base := base) (e := 22) (size := 1) W (madeCells #[.slice none 0 0] n) n hb (by simpa [maxLen] using hn) (by simp [size_madeCells])
 have hl : (madeCells #[Value.slice none 0 0] n).toList = List.replicate n nilv := by
  apply List.ext_getElem
  ·simp [madeCells]
  ·intro i h1 h2
   simp [madeCells, nilv, Nat.mod_one]
 rw [hl] at h
 refine ⟨by simpa using h, by simp, by simp, fun i hi => ?_, fun i j hi hj _ => ?_⟩
 ·rw [List.length_replicate] at hi
  simp only [List.getD_eq_getElem?_getD, List.getElem?_replicate, if_pos hi, Option.getD_some]
  exact own_nil _ _ _ _
 ·rw [List.length_replicate] at hi
  left
  simp [List.getD_eq_getElem?_getD, List.getElem?_replicate, hi, nilv, Value.ownBlock]
theorem RowI.alloc' {w : World} {base : Nat} {v : Value} {l : List Int} (h : RowI w base v l) (o : Obj) : RowI (w.alloc o) base v l := World.ownsRow.alloc h o
theorem qO {B : Nat} {w W : World} (h : Below B w W) (hB : B ≤ W.heap.size := by omega) (o : Obj) : Below B w (W.alloc o) := h.alloc hB o
theorem blk_lt_of_own {w : World} {base e size n m c : Nat} {g : Nat} {xs : List Value} (h : w.ownsRow base e size (.slice (some ⟨g, 0, none⟩) n c) m xs) : g < w.heap.size := own_lt h g rfl
theorem stepI {ops : Array Oper} {o : Oper} {a : Act} {K : Act → World → Prop} {Q : Exit → Act → World → Prop} {E : Prop} (W : World) (hgd : o.guard = none) (s x : Operand)
  (ho : o.op = .call { callee := .builtin .append, args := #[s, x], argTypes := #[22, 22] }) (base : Nat) (v : Value) (l : List Int) (hs : a.eval s = v) (hown : RowI W base v l) (b : Nat) (y : Int)
  (hx : a.eval x = .slice (some ⟨b, 0, none⟩) 1 1) (hb : W.heap[b]? = some (.cells #[.int .i64 y] 3 (0, 0))) (hl : l.length < 1000000000) (hbase : base ≤ W.heap.size)
  (h : ∀ v1 w1, RowI w1 base v1 (l ++ [y]) → W.grownBy w1 v.ownBlock → (v1.ownBlock = v.ownBlock ∨ ∃ b, v1.ownBlock = some b ∧ W.heap.size ≤ b) → K (a.put o.dst v1) w1) :
  if Region.wanted o (yielded ops a.tmps) = true then Oper.wp Try.prog o a W K Q else E := by
 obtain ⟨i0, hi0, hz0, hz1, hz2⟩ := info_parts info3
 refine step_append_lies _ hgd s x 22 ho base 3 i0 _ 1 8 Try.underlying22 hi0 hz0 hz1 hz2 rfl (by omega) v l.length (nums .i64 l) hs hown ⟨b, 0, none⟩ 1 1 [.int .i64 y] hx rfl (World.news_of_block (cs := #[.int .i64 y]) (t := 3) (fr := (0, 0)) hb) (by simp [Value.oneCell']) (by omega) (by unfold maxLen; omega) (by omega) hbase W.heap.size rfl ?_
 intro g cap w1 hown1 hg hat _
 refine h _ w1 (by unfold RowI; rw [List.length_append, nums_append]; exact hown1) hg ?_
 rcases hat with hat | hat
 ·exact .inl (by rw [hat]; rfl)
 ·exact .inr ⟨g, rfl, by omega⟩
theorem nbrs_len (n : Nat) (l : List S66) (i : Nat) : ((nbrs n l).getD i []).length ≤ l.length := by
 unfold nbrs
 suffices ∀ xss : List (List Int), ∀ m, (∀ i, (xss.getD i []).length ≤ m) → ∀ i, ((l.foldl ZK xss).getD i []).length ≤ m + l.length by
  have := this (List.replicate n []) 0 (fun i => by simp [List.getD_eq_getElem?_getD, List.getElem?_replicate]; split <;> simp) i
  omega
 induction l with
 | nil => intro xss m h i; exact h i
 | cons e r ih =>
  intro xss m h i
  rw [List.foldl_cons]
  have := ih (ZK xss e) (m + 1) (fun i => by
   unfold ZK
   have h1 := h e.f0.toNat
   have h2 := h e.f1.toNat
   have h3 := h i
   simp only [List.getD_eq_getElem?_getD, List.getElem?_set, List.length_set] at h1 h2 h3 ⊢
   split
   ·split
    ·simp only [Option.getD_some, List.length_append, List.length_cons, List.length_nil]; omega
    ·simp
   ·split
    ·split
     ·simp only [Option.getD_some, List.length_append, List.length_cons, List.length_nil]; omega
     ·simp
    ·omega) i
  rw [List.length_cons]
  omega
theorem RowI.isSlice {w : World} {base : Nat} {v : Value} {l : List Int} (h : RowI w base v l) : ∃ A n c, v = .slice A n c := by
 rcases h.2 with ⟨h, _⟩ | ⟨g, cap, cur, h, _⟩
 ·exact ⟨_, _, _, h⟩
 ·exact ⟨_, _, _, h⟩
theorem nbr_end {w Wa w1 Wb w2 : World} {base g n c U V : Nat} {vs : List Value} {xss : List (List Int)} {v1 v2 : Value} {y1 y2 : List Int}
  (hO : OI Wa base (.slice (some ⟨g, 0, none⟩) n c) vs vs xss) (hUV : U ≠ V) (hU : U < vs.length) (hV : V < vs.length)
  (h1 : RowI w1 base v1 y1) (hg1 : Wa.grownBy w1 (vs.getD U nilv).ownBlock) (hat1 : v1.ownBlock = (vs.getD U nilv).ownBlock ∨ ∃ b, v1.ownBlock = some b ∧ Wa.heap.size ≤ b) (hb : Below w1.heap.size w1 Wb)
  (h2 : RowI w2 base v2 y2) (hg2 : Wb.grownBy w2 (vs.getD V nilv).ownBlock) (hat2 : v2.ownBlock = (vs.getD V nilv).ownBlock ∨ ∃ b, v2.ownBlock = some b ∧ Wb.heap.size ≤ b)
  (hB : Below base w Wa) (hs : base ≤ Wa.heap.size) :
  w2.cell? ⟨g, U, none⟩ = some (vs.getD U nilv) ∧ w2.frozen? ⟨g, U, none⟩ = false ∧ (w2.setCell ⟨g, U, none⟩ v1).cell? ⟨g, V, none⟩ = some (vs.getD V nilv) ∧ (w2.setCell ⟨g, U, none⟩ v1).frozen? ⟨g, V, none⟩ = false ∧
   OI ((w2.setCell ⟨g, U, none⟩ v1).setCell ⟨g, V, none⟩ v2) base (.slice (some ⟨g, 0, none⟩) n c) ((vs.set U v1).set V v2) ((vs.set U v1).set V v2) ((xss.set U y1).set V y2) ∧ Below base w ((w2.setCell ⟨g, U, none⟩ v1).setCell ⟨g, V, none⟩ v2) := by
 have hxl := hO.lx
 have o1 := hO.append lawI (by decide) U hU h1 hg1 hat1
 have o2 := o1.below lawI hb
 have eV : (vs.set U v1).getD V nilv = vs.getD V nilv := by rw [Qe _ _ _ _ _ hU, if_neg hUV]
 have o3 := o2.append lawI (by decide) V hV h2 (by rw [eV]; exact hg2) (by rw [eV]; exact hat2)
 have eU : ((vs.set U v1).set V v2).getD U nilv = v1 := by rw [Qe _ _ _ _ _ (by simpa using hV), if_neg (Ne.symm hUV), Qe _ _ _ _ _ hU, if_pos rfl]
 have eV2 : ((vs.set U v1).set V v2).getD V nilv = v2 := by rw [Qe _ _ _ _ _ (by simpa using hV), if_pos rfl]
 obtain ⟨c1, f1, o4, g4⟩ := o3.store lawI (by decide) U hU
 rw [eU] at o4 g4
 obtain ⟨c2, f2, o5, g5⟩ := o4.store lawI (by decide) V (by simpa using hV)
 rw [eV2] at o5 g5
 rw [eV] at c2
 rw [add_plain] at c1 f1 c2 f2 o4 o5 g4 g5
 rw [add_plain] at c2 f2 o5 g5
 have r1 := hO.row U hU
 have r2 := o2.row V hV
 rw [eV] at r2
 have b1 := hB.grown hg1 hs (Za r1)
 have s1 := hg1.size
 have b2 : Below base w Wb := b1.trans (hb.mono (by omega))
 have s2 := hb.size
 have b3 := b2.grown hg2 (by omega) (Za r2)
 have s3 := hg2.size
 have b4 := b3.grown g4 (by omega) (Za o3.top)
 have s4 := g4.size
 exact ⟨c1, f1, c2, f2, o5, b4.grown g5 (by omega) (Za o4.top)⟩
set_option maxHeartbeats 1600000 in
set_option maxRecDepth 100000 in
theorem neighbours_c (n : Nat) (A : Option Addr) (c : Nat) (l : List S66) (w : World) (hn : n ≤ 1000000) (hl : l.length ≤ 1000000) (he : EdgesIn n l) (hr : Kd.C k66 w A l.length l) :
  Calls Try.prog 33 #[.agg #[.int .i64 n, .slice A l.length c]] w fun e w' => ∃ v vs, e = .returned v ∧ OI w' w.heap.size v vs vs (nbrs n l) ∧ Below w.heap.size w w' := by
 have hmk := fun W => run_make_row' (P := Try.prog) 34 22 (.slice none 0 0) 24 Try.underlying34 info22 rfl .i64 .i64 n (by omega) (by omega) W
 have HR := za.mk hr
 have HE := za.mk he
 clear hr he
 go_enter Try.func33, Try.ntmps33
 go_wp2_with fail
 have HB := za.mk (zf (zf (Below.refl w.heap.size w) (.cells #[.int .i64 (n : Int), .slice A l.length c] 29)) (.cells (madeCells #[.slice none 0 0] n) 22))
 have HO := za.mk (OI_made (w.alloc (.cells #[.int .i64 (n : Int), .slice A l.length c] 29)) w.heap.size n (by simp) (by omega))
 rw [show (w.alloc (.cells #[.int .i64 (n : Int), .slice A l.length c] 29)).heap.size = w.heap.size + 1 by simp] at HO
 generalize (w.alloc (.cells #[.int .i64 (n : Int), .slice A l.length c] 29)).alloc (.cells (madeCells #[.slice none 0 0] n) 22) = W1 at *
 go_loopg [12] l.length (fun gg s12 wr => ∃ (j : Nat) (vs : List Value), j ≤ l.length ∧ l.length - j ≤ gg ∧ s12 = .int .i64 j ∧ za (OI wr w.heap.size (.slice (some ⟨w.heap.size + 1, 0, none⟩) n n) vs vs (nbrs n (l.take j))) ∧ za (Below w.heap.size w wr))
 case atStart => exact ⟨0, _, Nat.zero_le _, by omega, rfl, by simpa [nbrs] using HO, HB⟩
 case round =>
  clear HB HO
  obtain ⟨j, vs, hj, hgj, rfl, HO, HB⟩ := hrel
  by_cases hjl : j < l.length
  ·obtain ⟨ad, e, hx0, hx1⟩ := edgeAt (Kd.qB HR.out HB.out) j hjl
   cases e
   have HEJ := za.mk (HE.out _ (List.getElem_mem hjl))
   have HT := za.mk (show nbrs n (l.take (j + 1)) = ZK (nbrs n (l.take j)) l[j] by rw [List.take_succ_eq_append_getElem hjl, nbrs_snoc])
   generalize l[j] = ed at *
   obtain ⟨U, V⟩ := ed
   simp only at hx0 hx1
   obtain ⟨U, rfl⟩ := Int.eq_ofNat_of_zero_le HEJ.out.1
   obtain ⟨V, rfl⟩ := Int.eq_ofNat_of_zero_le (show 0 ≤ V by have := HEJ.out; simp only at this; omega)
   have hUV : U < V := by have := HEJ.out.2.1; simp only at this; omega
   have hVn : V < n := by have := HEJ.out.2.2; simp only at this; omega
   have hvl : vs.length = n := by have := HO.out.lx; rw [nbrs_length] at this; omega
   have HVL := za.mk hvl
   clear hvl
   have hjb : (j : Int) < (l.length : Int) := by omega
   go_wp2_with fail
   have HO0 := za.mk (O2.below lawI HO.out (zf (Below.refl wr.heap.size wr) (.cells #[.int .i64 (U : Int), .int .i64 (V : Int)] 66)))
   have HB0 := za.mk (zf HB.out (.cells #[.int .i64 (U : Int), .int .i64 (V : Int)] 66))
   have HX0 := za.mk (heap_alloc_new wr (.cells #[.int .i64 (U : Int), .int .i64 (V : Int)] 66))
   have hz0 := ze HX0.out 0
   have hz1 := ze HX0.out 1
   obtain ⟨hcU, hfU, _, _⟩ := HO0.out.store lawI (by decide) U (by have := HVL.out; omega)
   obtain ⟨hcV, hfV, _, _⟩ := HO0.out.store lawI (by decide) V (by have := HVL.out; omega)
   rw [add_plain] at hcU hcV hfU hfV
   have hq : wr.heap.size + 1 ≤ (wr.alloc (.cells #[.int .i64 (U : Int), .int .i64 (V : Int)] 66)).heap.size := qg HX0.out
   have hq2 : w.heap.size + 1 < wr.heap.size := by
    have := blk_lt_of_own HO.out.top
    omega
   generalize wr.alloc (.cells #[.int .i64 (U : Int), .int .i64 (V : Int)] 66) = W0 at *
   generalize wr.heap.size = q at *
   generalize hvU : vs.getD U nilv = vU at *
   generalize hvV : vs.getD V nilv = vV at *
   have hU0 : (0 : Int) ≤ (U : Int) := by omega
   have hU1 : (U : Int) < (n : Int) := by omega
   have hV0 : (0 : Int) ≤ (V : Int) := by omega
   have hV1 : (V : Int) < (n : Int) := by omega
   have HRU := za.mk (HO0.out.row U (by have := HVL.out; omega))
   have HRV := za.mk (HO0.out.row V (by have := HVL.out; omega))
   rw [hvU] at HRU
   rw [hvV] at HRV
   generalize hxU : (nbrs n (l.take j)).getD U [] = xU at *
   generalize hxV : (nbrs n (l.take j)).getD V [] = xV at *
   have HvU := za.mk hvU
   have HvV := za.mk hvV
   have HxU := za.mk hxU
   have HxV := za.mk hxV
   clear hvU hvV hxU hxV
   obtain ⟨i0, hi0, hz0', hz1', hz2'⟩ := info_parts info3
   have HI := za.mk (And.intro hi0 (And.intro hz0' (And.intro hz1' hz2')))
   clear hi0 hz0' hz1' hz2'
   have agU : vU.ownBlock ≠ some q := Ne.symm (own_ne HRU.out HX0.out (by decide))
   have agV : vV.ownBlock ≠ some q := Ne.symm (own_ne HRV.out HX0.out (by decide))
   have atU : vU.ownBlock ≠ some (w.heap.size + 1) := fun e => (Zx HRU.out HO0.out.top (by decide)).elim (fun h => by rw [h] at e; cases e) (fun h => h e)
   have atV : vV.ownBlock ≠ some (w.heap.size + 1) := fun e => (Zx HRV.out HO0.out.top (by decide)).elim (fun h => by rw [h] at e; cases e) (fun h => h e)
   have agU' := Ne.symm agU
   have agV' := Ne.symm agV
   have atU' := Ne.symm atU
   have atV' := Ne.symm atV
   have hqW : q < W0.heap.size := by omega
   have htW : w.heap.size + 1 < W0.heap.size := by omega
   have HLU := za.mk (show xU.length < 1000000000 by have := nbrs_len n (l.take j) U; rw [HxU.out, List.length_take] at this; omega)
   have HLV := za.mk (show xV.length < 1000000000 by have := nbrs_len n (l.take j) V; rw [HxV.out, List.length_take] at this; omega)
   have HAP := za.mk (show vV.ownBlock = none ∨ vV.ownBlock ≠ vU.ownBlock by
    have := HO0.out.apart V U (by have := HVL.out; omega) (by have := HVL.out; omega) (by omega)
    rw [HvU.out, HvV.out] at this
    exact this)
   have HS := za.mk (show (fun w' => w'.cell? ⟨q, 0, none⟩ = some (.int .i64 (U : Int)) ∧ w'.cell? ⟨q, 1, none⟩ = some (.int .i64 (V : Int)) ∧ w'.cell? ⟨w.heap.size + 1, U, none⟩ = some vU ∧ w'.cell? ⟨w.heap.size + 1, V, none⟩ = some vV) W0.drew from ⟨hz0, hz1, hcU, hcV⟩)
   have HSb := za.mk (show ∀ o, (fun w' => w'.cell? ⟨q, 0, none⟩ = some (.int .i64 (U : Int)) ∧ w'.cell? ⟨q, 1, none⟩ = some (.int .i64 (V : Int)) ∧ w'.cell? ⟨w.heap.size + 1, U, none⟩ = some vU ∧ w'.cell? ⟨w.heap.size + 1, V, none⟩ = some vV) (W0.drew.alloc o) from fun o => ⟨(World.cell?_alloc_past _ _ _ hqW).trans hz0, (World.cell?_alloc_past _ _ _ hqW).trans hz1, (World.cell?_alloc_past _ _ _ htW).trans hcU, (World.cell?_alloc_past _ _ _ htW).trans hcV⟩)
   have hneU : ∀ b, W0.heap.size ≤ b → some b ≠ vU.ownBlock := fun b hb e => (by have := own_lt HRU.out b e.symm; omega)
   replace hneU : ∀ b, W0.drew.heap.size ≤ b → some b ≠ vU.ownBlock := hneU
   refine ZC 25 (fun w' => w'.cell? ⟨q, 0, none⟩ = some (.int .i64 (U : Int)) ∧ w'.cell? ⟨q, 1, none⟩ = some (.int .i64 (V : Int)) ∧ w'.cell? ⟨w.heap.size + 1, U, none⟩ = some vU ∧ w'.cell? ⟨w.heap.size + 1, V, none⟩ = some vV) (fun w' => w'.cell? ⟨q, 1, none⟩ = some (.int .i64 (V : Int))) (by kernel_rfl) ?_
   replace HO0 := za.mk (O2.below lawI HO0.out (show Below W0.heap.size W0 W0.drew from zb (Below.refl W0.heap.size W0) 1))
   replace HB0 := za.mk (show Below w.heap.size w W0.drew from zb HB0.out 1)
   replace HRU := za.mk (show RowI W0.drew w.heap.size vU xU from HRU.out)
   replace HRV := za.mk (show RowI W0.drew w.heap.size vV xV from HRV.out)
   replace hqW : q < W0.drew.heap.size := hqW
   replace htW : w.heap.size + 1 < W0.drew.heap.size := htW
   clear HX0 hcU hcV hfU hfV hz0 hz1 hq
   generalize W0.drew = W9 at *
   refine zN (fun _ => True) (i := 0) (v := ?_) rfl (by kernel_rfl) (fun _ _ => trivial) (Or.inl fun _ _ => trivial) (by kernel_rfl) (by kernel_rfl) (by kernel_rfl) (fun _ _ _ h => h) (by kernel_rfl) (by kernel_rfl) (Or.inl ⟨by rfl, ?_⟩) HS.out ?_
   rotate_left; (focus (intro w hSw; (try dsimp only at hSw); go_simp; try with_reducible rfl))
   try simp only [Act.put, List.setIfInBounds_toArray, List.set_cons_zero, List.set_cons_succ, List.getElem_toArray, List.getElem_cons_zero, List.getElem_cons_succ]
   refine zN (fun _ => True) (i := 1) (v := ?_) rfl (by kernel_rfl) (fun _ _ => trivial) (Or.inl fun _ _ => trivial) (by kernel_rfl) (by kernel_rfl) (by kernel_rfl) (fun _ _ _ h => h) (by kernel_rfl) (by kernel_rfl) (Or.inl ⟨by rfl, ?_⟩) HS.out ?_
   rotate_left; (focus (intro w hSw; (try dsimp only at hSw); go_simp; try with_reducible rfl))
   try simp only [Act.put, List.setIfInBounds_toArray, List.set_cons_zero, List.set_cons_succ, List.getElem_toArray, List.getElem_cons_zero, List.getElem_cons_succ]
   refine zN _ (i := 2) (v := ?_) rfl (by kernel_rfl) (fun _ h => h) (Or.inr (by kernel_rfl)) (by kernel_rfl) (by kernel_rfl) (by kernel_rfl) (fun _ _ _ h => h) (by kernel_rfl) (by kernel_rfl) (Or.inl ⟨by rfl, ?_⟩) HS.out ?_
   rotate_left; (focus (intro w hSw; (try dsimp only at hSw); go_simp; try with_reducible rfl))
   try simp only [Act.put, List.setIfInBounds_toArray, List.set_cons_zero, List.set_cons_succ, List.getElem_toArray, List.getElem_cons_zero, List.getElem_cons_succ]
   refine zN (fun _ => True) (i := 3) (v := ?_) rfl (by kernel_rfl) (fun _ _ => trivial) (Or.inl fun _ _ => trivial) (by kernel_rfl) (by kernel_rfl) (by kernel_rfl) (fun _ _ _ h => h) (by kernel_rfl) (by kernel_rfl) (Or.inl ⟨by rfl, ?_⟩) HS.out ?_
   rotate_left; (focus (intro w hSw; (try dsimp only at hSw); go_simp; try with_reducible rfl))
   try simp only [Act.put, List.setIfInBounds_toArray, List.set_cons_zero, List.set_cons_succ, List.getElem_toArray, List.getElem_cons_zero, List.getElem_cons_succ]
   refine zN (fun _ => True) (i := 4) (v := ?_) rfl (by kernel_rfl) (fun _ _ => trivial) (Or.inl fun _ _ => trivial) (by kernel_rfl) (by kernel_rfl) (by kernel_rfl) (fun _ _ _ h => h) (by kernel_rfl) (by kernel_rfl) (Or.inl ⟨by rfl, ?_⟩) HS.out ?_
   rotate_left; (focus (intro w hSw; (try dsimp only at hSw); go_simp; try with_reducible rfl))
   try simp only [Act.put, List.setIfInBounds_toArray, List.set_cons_zero, List.set_cons_succ, List.getElem_toArray, List.getElem_cons_zero, List.getElem_cons_succ]
   refine zN _ (i := 5) (v := ?_) rfl (by kernel_rfl) (fun _ h => h.2.1) (Or.inl fun _ h => h) (by kernel_rfl) (by kernel_rfl) (by kernel_rfl) (fun _ _ _ h => h) (by kernel_rfl) (by kernel_rfl) (Or.inl ⟨by rfl, ?_⟩) HS.out ?_
   rotate_left; (focus (intro w hSw; (try dsimp only at hSw); go_simp; try with_reducible rfl))
   try simp only [Act.put, List.setIfInBounds_toArray, List.set_cons_zero, List.set_cons_succ, List.getElem_toArray, List.getElem_cons_zero, List.getElem_cons_succ]
   refine zN (fun _ => True) (i := 6) (v := ?_) rfl (by kernel_rfl) (fun _ _ => trivial) (Or.inl fun _ _ => trivial) (by kernel_rfl) (by kernel_rfl) (by kernel_rfl) (fun _ _ _ h => h) (by kernel_rfl) (by kernel_rfl) (Or.inl ⟨by rfl, ?_⟩) HS.out ?_
   rotate_left; (focus (intro w hSw; (try dsimp only at hSw); go_simp; try with_reducible rfl))
   try simp only [Act.put, List.setIfInBounds_toArray, List.set_cons_zero, List.set_cons_succ, List.getElem_toArray, List.getElem_cons_zero, List.getElem_cons_succ]
   refine zN (fun _ => True) (i := 7) (v := ?_) rfl (by kernel_rfl) (fun _ _ => trivial) (Or.inl fun _ _ => trivial) (by kernel_rfl) (by kernel_rfl) (by kernel_rfl) (fun _ _ _ h => h) (by kernel_rfl) (by kernel_rfl) (Or.inl ⟨by rfl, ?_⟩) HS.out ?_
   rotate_left; (focus (intro w hSw; (try dsimp only at hSw); go_simp; try with_reducible rfl))
   try simp only [Act.put, List.setIfInBounds_toArray, List.set_cons_zero, List.set_cons_succ, List.getElem_toArray, List.getElem_cons_zero, List.getElem_cons_succ]
   refine zN _ (i := 8) (v := ?_) rfl (by kernel_rfl) (fun _ h => h) (Or.inr (by kernel_rfl)) (by kernel_rfl) (by kernel_rfl) (by kernel_rfl) (fun _ _ _ h => h) (by kernel_rfl) (by kernel_rfl) (Or.inl ⟨by rfl, ?_⟩) HS.out ?_
   rotate_left; (focus (intro w hSw; (try dsimp only at hSw); go_simp; try with_reducible rfl))
   try simp only [Act.put, List.setIfInBounds_toArray, List.set_cons_zero, List.set_cons_succ, List.getElem_toArray, List.getElem_cons_zero, List.getElem_cons_succ]
   refine zN (fun _ => True) (i := 9) (v := ?_) rfl (by kernel_rfl) (fun _ _ => trivial) (Or.inl fun _ _ => trivial) (by kernel_rfl) (by kernel_rfl) (by kernel_rfl) (fun _ _ _ h => h) (by kernel_rfl) (by kernel_rfl) (Or.inl ⟨by rfl, ?_⟩) HS.out ?_
   rotate_left; (focus (intro w hSw; (try dsimp only at hSw); go_simp; try with_reducible rfl))
   try simp only [Act.put, List.setIfInBounds_toArray, List.set_cons_zero, List.set_cons_succ, List.getElem_toArray, List.getElem_cons_zero, List.getElem_cons_succ]
   refine zN _ (i := 10) (v := ?_) rfl (by kernel_rfl) (fun _ h => h) (Or.inr (by kernel_rfl)) (by kernel_rfl) (by kernel_rfl) (by kernel_rfl) (fun _ _ _ h => h) (by kernel_rfl) (by kernel_rfl) (Or.inl ⟨by rfl, ?_⟩) HS.out ?_
   rotate_left; (focus (intro w hSw; (try dsimp only at hSw); go_simp; try with_reducible rfl))
   try simp only [Act.put, List.setIfInBounds_toArray, List.set_cons_zero, List.set_cons_succ, List.getElem_toArray, List.getElem_cons_zero, List.getElem_cons_succ]
   refine zN (fun _ => True) (i := 11) (v := ?_) rfl (by kernel_rfl) (fun _ _ => trivial) (Or.inl fun _ _ => trivial) (by kernel_rfl) (by kernel_rfl) (by kernel_rfl) (fun _ _ _ h => h) (by kernel_rfl) (by kernel_rfl) (Or.inl ⟨by rfl, ?_⟩) HS.out ?_
   rotate_left; (focus (intro w hSw; (try dsimp only at hSw); go_simp; try with_reducible rfl))
   try simp only [Act.put, List.setIfInBounds_toArray, List.set_cons_zero, List.set_cons_succ, List.getElem_toArray, List.getElem_cons_zero, List.getElem_cons_succ]
   refine zN _ (i := 12) (v := ?_) rfl (by kernel_rfl) (fun _ h => h) (Or.inr (by kernel_rfl)) (by kernel_rfl) (by kernel_rfl) (by kernel_rfl) (fun _ _ _ h => h) (by kernel_rfl) (by kernel_rfl) (Or.inl ⟨by rfl, ?_⟩) HS.out ?_
   rotate_left; (focus (intro w hSw; (try dsimp only at hSw); go_simp; try with_reducible rfl))
   try simp only [Act.put, List.setIfInBounds_toArray, List.set_cons_zero, List.set_cons_succ, List.getElem_toArray, List.getElem_cons_zero, List.getElem_cons_succ]
   refine zN (fun _ => True) (i := 15) (v := ?_) rfl (by kernel_rfl) (fun _ _ => trivial) (Or.inl fun _ _ => trivial) (by kernel_rfl) (by kernel_rfl) (by kernel_rfl) (fun _ _ _ h => h) (by kernel_rfl) (by kernel_rfl) (Or.inl ⟨by rfl, ?_⟩) HS.out ?_
   rotate_left; (focus (intro w hSw; (try dsimp only at hSw); go_simp; try with_reducible rfl))
   try simp only [Act.put, List.setIfInBounds_toArray, List.set_cons_zero, List.set_cons_succ, List.getElem_toArray, List.getElem_cons_zero, List.getElem_cons_succ]
   refine zN (fun _ => True) (i := 16) (v := ?_) rfl (by kernel_rfl) (fun _ _ => trivial) (Or.inl fun _ _ => trivial) (by kernel_rfl) (by kernel_rfl) (by kernel_rfl) (fun _ _ _ h => h) (by kernel_rfl) (by kernel_rfl) (Or.inl ⟨by rfl, ?_⟩) HS.out ?_
   rotate_left; (focus (intro w hSw; (try dsimp only at hSw); go_simp; try with_reducible rfl))
   try simp only [Act.put, List.setIfInBounds_toArray, List.set_cons_zero, List.set_cons_succ, List.getElem_toArray, List.getElem_cons_zero, List.getElem_cons_succ]
   refine zN _ (i := 17) (v := ?_) rfl (by kernel_rfl) (fun _ h => h) (Or.inr (by kernel_rfl)) (by kernel_rfl) (by kernel_rfl) (by kernel_rfl) (fun _ _ _ h => h) (by kernel_rfl) (by kernel_rfl) (Or.inl ⟨by rfl, ?_⟩) HS.out ?_
   rotate_left; (focus (intro w hSw; (try dsimp only at hSw); go_simp; try with_reducible rfl))
   try simp only [Act.put, List.setIfInBounds_toArray, List.set_cons_zero, List.set_cons_succ, List.getElem_toArray, List.getElem_cons_zero, List.getElem_cons_succ]
   refine zN (fun _ => True) (i := 18) (v := ?_) rfl (by kernel_rfl) (fun _ _ => trivial) (Or.inl fun _ _ => trivial) (by kernel_rfl) (by kernel_rfl) (by kernel_rfl) (fun _ _ _ h => h) (by kernel_rfl) (by kernel_rfl) (Or.inl ⟨by rfl, ?_⟩) HS.out ?_
   rotate_left; (focus (intro w hSw; (try dsimp only at hSw); go_simp; try with_reducible rfl))
   try simp only [Act.put, List.setIfInBounds_toArray, List.set_cons_zero, List.set_cons_succ, List.getElem_toArray, List.getElem_cons_zero, List.getElem_cons_succ]
   refine zN _ (i := 19) (v := ?_) rfl (by kernel_rfl) (fun _ h => h) (Or.inr (by kernel_rfl)) (by kernel_rfl) (by kernel_rfl) (by kernel_rfl) (fun _ _ _ h => h) (by kernel_rfl) (by kernel_rfl) (Or.inl ⟨by rfl, ?_⟩) HS.out ?_
   rotate_left; (focus (intro w hSw; (try dsimp only at hSw); go_simp; try with_reducible rfl))
   try simp only [Act.put, List.setIfInBounds_toArray, List.set_cons_zero, List.set_cons_succ, List.getElem_toArray, List.getElem_cons_zero, List.getElem_cons_succ]
   refine zN (fun _ => True) (i := 20) (v := ?_) rfl (by kernel_rfl) (fun _ _ => trivial) (Or.inl fun _ _ => trivial) (by kernel_rfl) (by kernel_rfl) (by kernel_rfl) (fun _ _ _ h => h) (by kernel_rfl) (by kernel_rfl) (Or.inl ⟨by rfl, ?_⟩) HS.out ?_
   rotate_left; (focus (intro w hSw; (try dsimp only at hSw); go_simp; try with_reducible rfl))
   try simp only [Act.put, List.setIfInBounds_toArray, List.set_cons_zero, List.set_cons_succ, List.getElem_toArray, List.getElem_cons_zero, List.getElem_cons_succ]
   refine zN _ (i := 21) (v := ?_) rfl (by kernel_rfl) (fun _ h => h) (Or.inr (by kernel_rfl)) (by kernel_rfl) (by kernel_rfl) (by kernel_rfl) (fun _ _ _ h => h) (by kernel_rfl) (by kernel_rfl) (Or.inl ⟨by rfl, ?_⟩) HS.out ?_
   rotate_left; (focus (intro w hSw; (try dsimp only at hSw); go_simp; try with_reducible rfl))
   try simp only [Act.put, List.setIfInBounds_toArray, List.set_cons_zero, List.set_cons_succ, List.getElem_toArray, List.getElem_cons_zero, List.getElem_cons_succ]
   refine qx (rs := [13, 22]) (by kernel_rfl) (by simp) (by kernel_rfl) (by kernel_rfl) ?_
   refine List.forall_mem_cons.2 ⟨?_, List.forall_mem_cons.2 ⟨?_, by simp⟩⟩
   ·refine wpOp_step rfl (fun K hK => ?_)
    replace hK := za.mk hK
    go_simp
    have HS := za.mk (HSb.out (.cells #[.int .i64 (V : Int)] 3))
    refine hK.out _ _ ⟨HS.out, ?_⟩
    clear hK K
    try simp only [Act.put, List.setIfInBounds_toArray, List.set_cons_zero, List.set_cons_succ, List.getElem_toArray, List.getElem_cons_zero, List.getElem_cons_succ]
    refine qx (rs := [14, 22]) (by kernel_rfl) (by simp) (by kernel_rfl) (by kernel_rfl) ?_
    refine List.forall_mem_cons.2 ⟨?_, List.forall_mem_cons.2 ⟨?_, by simp⟩⟩
    ·refine wpOp_step rfl (fun K hK => ?_)
     replace hK := za.mk hK
     have HRUa := za.mk (show RowI (W9.alloc (.cells #[.int .i64 (V : Int)] 3)) w.heap.size vU xU from (HRU.out.alloc' _))
     have HRVa := za.mk (show RowI (W9.alloc (.cells #[.int .i64 (V : Int)] 3)) w.heap.size vV xV from (HRV.out.alloc' _))
     have HOa := za.mk (O2.below lawI HO0.out (zf (Below.refl W9.heap.size W9) (.cells #[.int .i64 (V : Int)] 3)))
     have HBa := za.mk (zf HB0.out (.cells #[.int .i64 (V : Int)] 3))
     have hWs : W9.heap.size + 1 ≤ (W9.alloc (.cells #[.int .i64 (V : Int)] 3)).heap.size := by simp
     refine stepI (W9.alloc (.cells #[.int .i64 (V : Int)] 3)) (by rfl) (.tmp 26) (.tmp 29) (by rfl) w.heap.size vU xU (by rfl) HRUa.out W9.heap.size V (by rfl) (heap_alloc_new W9 _) HLU.out (by omega) ?_
     generalize (W9.alloc (.cells #[.int .i64 (V : Int)] 3)) = Wa at *
     intro v1 w1 hU1 hgrow hat
     have HV1 := za.mk (show RowI w1 w.heap.size vV xV from own_other HRVa.out hgrow HAP.out)
     have hw1 := hgrow.size
     have HS := za.mk (show (fun w' => w'.cell? ⟨q, 0, none⟩ = some (.int .i64 (U : Int)) ∧ w'.cell? ⟨q, 1, none⟩ = some (.int .i64 (V : Int)) ∧ w'.cell? ⟨w.heap.size + 1, U, none⟩ = some vU ∧ w'.cell? ⟨w.heap.size + 1, V, none⟩ = some vV) w1 from ⟨(hgrow.cell_far _ (by simp only; omega) agU').trans HS.out.1, (hgrow.cell_far _ (by simp only; omega) agU').trans HS.out.2.1, (hgrow.cell_far _ (by simp only; omega) atU').trans HS.out.2.2.1, (hgrow.cell_far _ (by simp only; omega) atU').trans HS.out.2.2.2⟩)
     have HG1 := za.mk hgrow; have HA1 := za.mk hat; have HU1 := za.mk hU1; clear hU1 hgrow hat
     refine hK.out _ _ ⟨HS.out, ?_⟩
     clear hK K
     try simp only [Act.put, List.setIfInBounds_toArray, List.set_cons_zero, List.set_cons_succ, List.getElem_toArray, List.getElem_cons_zero, List.getElem_cons_succ]
     refine qx (rs := [22]) (by kernel_rfl) (by simp) (by kernel_rfl) (by kernel_rfl) ?_
     refine List.forall_mem_cons.2 ⟨?_, by simp⟩
     ·refine wpOp_step rfl (fun K hK => ?_)
      replace hK := za.mk hK
      go_simp
      have HS := za.mk (show (fun w' => w'.cell? ⟨q, 0, none⟩ = some (.int .i64 (U : Int)) ∧ w'.cell? ⟨q, 1, none⟩ = some (.int .i64 (V : Int)) ∧ w'.cell? ⟨w.heap.size + 1, U, none⟩ = some vU ∧ w'.cell? ⟨w.heap.size + 1, V, none⟩ = some vV) (w1.alloc (.cells #[.int .i64 (U : Int)] 3)) from ⟨(World.cell?_alloc_past _ _ _ (by omega)).trans HS.out.1, (World.cell?_alloc_past _ _ _ (by omega)).trans HS.out.2.1, (World.cell?_alloc_past _ _ _ (by omega)).trans HS.out.2.2.1, (World.cell?_alloc_past _ _ _ (by omega)).trans HS.out.2.2.2⟩)
      refine hK.out _ _ ⟨HS.out, ?_⟩
      clear hK K
      try simp only [Act.put, List.setIfInBounds_toArray, List.set_cons_zero, List.set_cons_succ, List.getElem_toArray, List.getElem_cons_zero, List.getElem_cons_succ]
      refine qx (rs := [23]) (by kernel_rfl) (by simp) (by kernel_rfl) (by kernel_rfl) ?_
      refine List.forall_mem_cons.2 ⟨?_, by simp⟩
      ·refine wpOp_step rfl (fun K hK => ?_)
       replace hK := za.mk hK
       have HBb := za.mk (show Below w1.heap.size w1 (w1.alloc (.cells #[.int .i64 (U : Int)] 3)) from (zf (Below.refl w1.heap.size w1) (.cells #[.int .i64 (U : Int)] 3)))
       have hws := HBb.out.size
       refine stepI (w1.alloc (.cells #[.int .i64 (U : Int)] 3)) (by rfl) (.tmp 35) (.tmp 38) (by rfl) w.heap.size vV xV (by rfl) (HV1.out.alloc' _) w1.heap.size U (by rfl) (heap_alloc_new w1 _) HLV.out (by omega) ?_
       generalize (w1.alloc (.cells #[.int .i64 (U : Int)] 3)) = Wb at *
       intro v2 w2 hV2 hgrow2 hat2
       have HS := za.mk (show (fun w' => w'.cell? ⟨q, 0, none⟩ = some (.int .i64 (U : Int)) ∧ w'.cell? ⟨q, 1, none⟩ = some (.int .i64 (V : Int)) ∧ w'.cell? ⟨w.heap.size + 1, U, none⟩ = some vU ∧ w'.cell? ⟨w.heap.size + 1, V, none⟩ = some vV) w2 from ⟨(hgrow2.cell_far _ (by simp only; omega) agV').trans HS.out.1, (hgrow2.cell_far _ (by simp only; omega) agV').trans HS.out.2.1, (hgrow2.cell_far _ (by simp only; omega) atV').trans HS.out.2.2.1, (hgrow2.cell_far _ (by simp only; omega) atV').trans HS.out.2.2.2⟩)
       have HE := nbr_end (U := U) (V := V) HOa.out (by omega) (by have := HVL.out; omega) (by have := HVL.out; omega) HU1.out (by rw [HvU.out]; exact HG1.out) (by rw [HvU.out]; exact HA1.out) HBb.out hV2 (by rw [HvV.out]; exact hgrow2) (by rw [HvV.out]; exact hat2) HBa.out (by omega)
       rw [HvU.out, HvV.out] at HE
       obtain ⟨hd1, hd2, hd3, hd4, HO5, HB5⟩ := HE
       replace HO5 := za.mk HO5; replace HB5 := za.mk HB5
       refine hK.out _ _ ⟨HS.out, ?_⟩
       clear hK K
       try simp only [Act.put, List.setIfInBounds_toArray, List.set_cons_zero, List.set_cons_succ, List.getElem_toArray, List.getElem_cons_zero, List.getElem_cons_succ]
       obtain ⟨A1, n1, c1, rfl⟩ := RowI.isSlice HU1.out
       obtain ⟨A2, n2, c2, rfl⟩ := RowI.isSlice hV2
       refine zN (fun _ => True) (i := 24) (v := ?_) rfl (by kernel_rfl) (fun _ _ => trivial) (Or.inl fun _ _ => trivial) (by kernel_rfl) (by kernel_rfl) (by kernel_rfl) (fun _ _ _ h => h) (by kernel_rfl) (by kernel_rfl) (Or.inl ⟨by rfl, ?_⟩) HS.out ?_
       rotate_left; (focus (intro w hSw; (try dsimp only at hSw); go_simp; try with_reducible rfl))
       try simp only [Act.put, List.setIfInBounds_toArray, List.set_cons_zero, List.set_cons_succ, List.getElem_toArray, List.getElem_cons_zero, List.getElem_cons_succ]
       refine Zo (by kernel_rfl) (by kernel_rfl) ?_
       refine wpOp_step rfl (fun K hK => ?_)
       replace hK := za.mk hK
       go_simp
       refine hK.out _ _ ⟨(World.cell?_setCell_far _ ⟨w.heap.size + 1, U, none⟩ _ _ (by simp only; omega)).trans HS.out.2.1, ?_⟩
       clear hK K
       try simp only [Act.put, List.setIfInBounds_toArray, List.set_cons_zero, List.set_cons_succ, List.getElem_toArray, List.getElem_cons_zero, List.getElem_cons_succ]
       have HS2 := za.mk ((World.cell?_setCell_far w2 ⟨w.heap.size + 1, U, none⟩ ⟨q, 1, none⟩ (.slice A1 n1 c1) (by simp only; omega)).trans HS.out.2.1)
       refine wpAnyH_take (i := 26) (v := ?_) rfl (by kernel_rfl) (by kernel_rfl) (by kernel_rfl) (fun _ _ _ h => h) (Or.inl ⟨by rfl, ?_⟩) HS2.out ?_
       rotate_left; (focus (intro w hSw; (try dsimp only at hSw); go_simp; try with_reducible rfl))
       try simp only [Act.put, List.setIfInBounds_toArray, List.set_cons_zero, List.set_cons_succ, List.getElem_toArray, List.getElem_cons_zero, List.getElem_cons_succ]
       refine wpAnyH_all (rs := [27]) (by kernel_rfl) (by simp) (List.forall_mem_cons.2 ⟨?_, by simp⟩)
       refine wpOp_step rfl (fun K hK => ?_)
       replace hK := za.mk hK
       go_simp
       refine hK.out _ _ ⟨(World.cell?_setCell_far _ ⟨w.heap.size + 1, V, none⟩ _ _ (by simp only; omega)).trans ((World.cell?_setCell_far _ ⟨w.heap.size + 1, U, none⟩ _ _ (by simp only; omega)).trans HS.out.2.1), ?_⟩
       clear hK K
       try simp only [Act.put, List.setIfInBounds_toArray, List.set_cons_zero, List.set_cons_succ, List.getElem_toArray, List.getElem_cons_zero, List.getElem_cons_succ]
       refine wpAnyH_done (by kernel_rfl) ?_ _
       go_wp2_with fail
       go_roundg (l.length - (j + 1))
       case measure => omega
       case rel => exact ⟨j + 1, _, by omega, by omega, by go_num, ⟨by rw [HT.out, ZK]; simp only [Int.toNat_natCast]; rw [HxU.out, HxV.out]; exact HO5.out⟩, HB5⟩
    ·refine wpOp_step rfl (fun K hK => ?_)
     replace hK := za.mk hK
     go_simp
     have HS := za.mk (show (fun w' => w'.cell? ⟨q, 0, none⟩ = some (.int .i64 (U : Int)) ∧ w'.cell? ⟨q, 1, none⟩ = some (.int .i64 (V : Int)) ∧ w'.cell? ⟨w.heap.size + 1, U, none⟩ = some vU ∧ w'.cell? ⟨w.heap.size + 1, V, none⟩ = some vV) ((W9.alloc (.cells #[.int .i64 (V : Int)] 3)).alloc (.cells #[.int .i64 (U : Int)] 3)) from ⟨(World.cell?_alloc_past _ _ _ (by simp; omega)).trans HS.out.1, (World.cell?_alloc_past _ _ _ (by simp; omega)).trans HS.out.2.1, (World.cell?_alloc_past _ _ _ (by simp; omega)).trans HS.out.2.2.1, (World.cell?_alloc_past _ _ _ (by simp; omega)).trans HS.out.2.2.2⟩)
     refine hK.out _ _ ⟨HS.out, ?_⟩
     clear hK K
     try simp only [Act.put, List.setIfInBounds_toArray, List.set_cons_zero, List.set_cons_succ, List.getElem_toArray, List.getElem_cons_zero, List.getElem_cons_succ]
     refine qx (rs := [14]) (by kernel_rfl) (by simp) (by kernel_rfl) (by kernel_rfl) ?_
     refine List.forall_mem_cons.2 ⟨?_, by simp⟩
     ·refine wpOp_step rfl (fun K hK => ?_)
      replace hK := za.mk hK
      have HRUa := za.mk (show RowI ((W9.alloc (.cells #[.int .i64 (V : Int)] 3)).alloc (.cells #[.int .i64 (U : Int)] 3)) w.heap.size vU xU from ((HRU.out.alloc' _).alloc' _))
      have HRVa := za.mk (show RowI ((W9.alloc (.cells #[.int .i64 (V : Int)] 3)).alloc (.cells #[.int .i64 (U : Int)] 3)) w.heap.size vV xV from ((HRV.out.alloc' _).alloc' _))
      have HOa := za.mk (O2.below lawI HO0.out (zf (zf (Below.refl W9.heap.size W9) (.cells #[.int .i64 (V : Int)] 3)) (.cells #[.int .i64 (U : Int)] 3)))
      have HBa := za.mk (zf (zf HB0.out (.cells #[.int .i64 (V : Int)] 3)) (.cells #[.int .i64 (U : Int)] 3))
      have hb22 := heap_alloc_new (W9.alloc (.cells #[.int .i64 (V : Int)] 3)) (.cells #[.int .i64 (U : Int)] 3)
      have hWs : W9.heap.size + 1 ≤ ((W9.alloc (.cells #[.int .i64 (V : Int)] 3)).alloc (.cells #[.int .i64 (U : Int)] 3)).heap.size := by simp
      refine stepI ((W9.alloc (.cells #[.int .i64 (V : Int)] 3)).alloc (.cells #[.int .i64 (U : Int)] 3)) (by rfl) (.tmp 26) (.tmp 29) (by rfl) w.heap.size vU xU (by rfl) HRUa.out W9.heap.size V (by rfl) (zh (heap_alloc_new W9 _) _) HLU.out (by omega) ?_
      generalize ((W9.alloc (.cells #[.int .i64 (V : Int)] 3)).alloc (.cells #[.int .i64 (U : Int)] 3)) = Wa at *
      intro v1 w1 hU1 hgrow hat
      have HV1 := za.mk (show RowI w1 w.heap.size vV xV from own_other HRVa.out hgrow HAP.out)
      have HD22 := za.mk ((hgrow.block _ (qg hb22) (hneU _ (by simp))).trans hb22)
      have hw1 := hgrow.size
      have HS := za.mk (show (fun w' => w'.cell? ⟨q, 0, none⟩ = some (.int .i64 (U : Int)) ∧ w'.cell? ⟨q, 1, none⟩ = some (.int .i64 (V : Int)) ∧ w'.cell? ⟨w.heap.size + 1, U, none⟩ = some vU ∧ w'.cell? ⟨w.heap.size + 1, V, none⟩ = some vV) w1 from ⟨(hgrow.cell_far _ (by simp only; omega) agU').trans HS.out.1, (hgrow.cell_far _ (by simp only; omega) agU').trans HS.out.2.1, (hgrow.cell_far _ (by simp only; omega) atU').trans HS.out.2.2.1, (hgrow.cell_far _ (by simp only; omega) atU').trans HS.out.2.2.2⟩)
      have HG1 := za.mk hgrow; have HA1 := za.mk hat; have HU1 := za.mk hU1; clear hU1 hgrow hat
      refine hK.out _ _ ⟨HS.out, ?_⟩
      clear hK K
      try simp only [Act.put, List.setIfInBounds_toArray, List.set_cons_zero, List.set_cons_succ, List.getElem_toArray, List.getElem_cons_zero, List.getElem_cons_succ]
      refine qx (rs := [23]) (by kernel_rfl) (by simp) (by kernel_rfl) (by kernel_rfl) ?_
      refine List.forall_mem_cons.2 ⟨?_, by simp⟩
      ·refine wpOp_step rfl (fun K hK => ?_)
       replace hK := za.mk hK
       have HBb := za.mk (show Below w1.heap.size w1 w1 from (Below.refl w1.heap.size w1))
       have hws := HBb.out.size
       refine stepI w1 (by rfl) (.tmp 35) (.tmp 38) (by rfl) w.heap.size vV xV (by rfl) HV1.out (W9.heap.size + 1) U (by rfl) (show _ from by have := HD22.out; simpa using this) HLV.out (by omega) ?_
       intro v2 w2 hV2 hgrow2 hat2
       have HS := za.mk (show (fun w' => w'.cell? ⟨q, 0, none⟩ = some (.int .i64 (U : Int)) ∧ w'.cell? ⟨q, 1, none⟩ = some (.int .i64 (V : Int)) ∧ w'.cell? ⟨w.heap.size + 1, U, none⟩ = some vU ∧ w'.cell? ⟨w.heap.size + 1, V, none⟩ = some vV) w2 from ⟨(hgrow2.cell_far _ (by simp only; omega) agV').trans HS.out.1, (hgrow2.cell_far _ (by simp only; omega) agV').trans HS.out.2.1, (hgrow2.cell_far _ (by simp only; omega) atV').trans HS.out.2.2.1, (hgrow2.cell_far _ (by simp only; omega) atV').trans HS.out.2.2.2⟩)
       have HE := nbr_end (U := U) (V := V) HOa.out (by omega) (by have := HVL.out; omega) (by have := HVL.out; omega) HU1.out (by rw [HvU.out]; exact HG1.out) (by rw [HvU.out]; exact HA1.out) HBb.out hV2 (by rw [HvV.out]; exact hgrow2) (by rw [HvV.out]; exact hat2) HBa.out (by omega)
       rw [HvU.out, HvV.out] at HE
       obtain ⟨hd1, hd2, hd3, hd4, HO5, HB5⟩ := HE
       replace HO5 := za.mk HO5; replace HB5 := za.mk HB5
       refine hK.out _ _ ⟨HS.out, ?_⟩
       clear hK K
       try simp only [Act.put, List.setIfInBounds_toArray, List.set_cons_zero, List.set_cons_succ, List.getElem_toArray, List.getElem_cons_zero, List.getElem_cons_succ]
       obtain ⟨A1, n1, c1, rfl⟩ := RowI.isSlice HU1.out
       obtain ⟨A2, n2, c2, rfl⟩ := RowI.isSlice hV2
       refine zN (fun _ => True) (i := 24) (v := ?_) rfl (by kernel_rfl) (fun _ _ => trivial) (Or.inl fun _ _ => trivial) (by kernel_rfl) (by kernel_rfl) (by kernel_rfl) (fun _ _ _ h => h) (by kernel_rfl) (by kernel_rfl) (Or.inl ⟨by rfl, ?_⟩) HS.out ?_
       rotate_left; (focus (intro w hSw; (try dsimp only at hSw); go_simp; try with_reducible rfl))
       try simp only [Act.put, List.setIfInBounds_toArray, List.set_cons_zero, List.set_cons_succ, List.getElem_toArray, List.getElem_cons_zero, List.getElem_cons_succ]
       refine Zo (by kernel_rfl) (by kernel_rfl) ?_
       refine wpOp_step rfl (fun K hK => ?_)
       replace hK := za.mk hK
       go_simp
       refine hK.out _ _ ⟨(World.cell?_setCell_far _ ⟨w.heap.size + 1, U, none⟩ _ _ (by simp only; omega)).trans HS.out.2.1, ?_⟩
       clear hK K
       try simp only [Act.put, List.setIfInBounds_toArray, List.set_cons_zero, List.set_cons_succ, List.getElem_toArray, List.getElem_cons_zero, List.getElem_cons_succ]
       have HS2 := za.mk ((World.cell?_setCell_far w2 ⟨w.heap.size + 1, U, none⟩ ⟨q, 1, none⟩ (.slice A1 n1 c1) (by simp only; omega)).trans HS.out.2.1)
       refine wpAnyH_take (i := 26) (v := ?_) rfl (by kernel_rfl) (by kernel_rfl) (by kernel_rfl) (fun _ _ _ h => h) (Or.inl ⟨by rfl, ?_⟩) HS2.out ?_
       rotate_left; (focus (intro w hSw; (try dsimp only at hSw); go_simp; try with_reducible rfl))
       try simp only [Act.put, List.setIfInBounds_toArray, List.set_cons_zero, List.set_cons_succ, List.getElem_toArray, List.getElem_cons_zero, List.getElem_cons_succ]
       refine wpAnyH_all (rs := [27]) (by kernel_rfl) (by simp) (List.forall_mem_cons.2 ⟨?_, by simp⟩)
       refine wpOp_step rfl (fun K hK => ?_)
       replace hK := za.mk hK
       go_simp
       refine hK.out _ _ ⟨(World.cell?_setCell_far _ ⟨w.heap.size + 1, V, none⟩ _ _ (by simp only; omega)).trans ((World.cell?_setCell_far _ ⟨w.heap.size + 1, U, none⟩ _ _ (by simp only; omega)).trans HS.out.2.1), ?_⟩
       clear hK K
       try simp only [Act.put, List.setIfInBounds_toArray, List.set_cons_zero, List.set_cons_succ, List.getElem_toArray, List.getElem_cons_zero, List.getElem_cons_succ]
       refine wpAnyH_done (by kernel_rfl) ?_ _
       go_wp2_with fail
       go_roundg (l.length - (j + 1))
       case measure => omega
       case rel => exact ⟨j + 1, _, by omega, by omega, by go_num, ⟨by rw [HT.out, ZK]; simp only [Int.toNat_natCast]; rw [HxU.out, HxV.out]; exact HO5.out⟩, HB5⟩
   ·refine wpOp_step rfl (fun K hK => ?_)
    replace hK := za.mk hK
    go_simp
    have HS := za.mk (HSb.out (.cells #[.int .i64 (U : Int)] 3))
    refine hK.out _ _ ⟨HS.out, ?_⟩
    clear hK K
    try simp only [Act.put, List.setIfInBounds_toArray, List.set_cons_zero, List.set_cons_succ, List.getElem_toArray, List.getElem_cons_zero, List.getElem_cons_succ]
    refine qx (rs := [13]) (by kernel_rfl) (by simp) (by kernel_rfl) (by kernel_rfl) ?_
    refine List.forall_mem_cons.2 ⟨?_, by simp⟩
    ·refine wpOp_step rfl (fun K hK => ?_)
     replace hK := za.mk hK
     go_simp
     have HS := za.mk (show (fun w' => w'.cell? ⟨q, 0, none⟩ = some (.int .i64 (U : Int)) ∧ w'.cell? ⟨q, 1, none⟩ = some (.int .i64 (V : Int)) ∧ w'.cell? ⟨w.heap.size + 1, U, none⟩ = some vU ∧ w'.cell? ⟨w.heap.size + 1, V, none⟩ = some vV) ((W9.alloc (.cells #[.int .i64 (U : Int)] 3)).alloc (.cells #[.int .i64 (V : Int)] 3)) from ⟨(World.cell?_alloc_past _ _ _ (by simp; omega)).trans HS.out.1, (World.cell?_alloc_past _ _ _ (by simp; omega)).trans HS.out.2.1, (World.cell?_alloc_past _ _ _ (by simp; omega)).trans HS.out.2.2.1, (World.cell?_alloc_past _ _ _ (by simp; omega)).trans HS.out.2.2.2⟩)
     refine hK.out _ _ ⟨HS.out, ?_⟩
     clear hK K
     try simp only [Act.put, List.setIfInBounds_toArray, List.set_cons_zero, List.set_cons_succ, List.getElem_toArray, List.getElem_cons_zero, List.getElem_cons_succ]
     refine qx (rs := [14]) (by kernel_rfl) (by simp) (by kernel_rfl) (by kernel_rfl) ?_
     refine List.forall_mem_cons.2 ⟨?_, by simp⟩
     ·refine wpOp_step rfl (fun K hK => ?_)
      replace hK := za.mk hK
      have HRUa := za.mk (show RowI ((W9.alloc (.cells #[.int .i64 (U : Int)] 3)).alloc (.cells #[.int .i64 (V : Int)] 3)) w.heap.size vU xU from ((HRU.out.alloc' _).alloc' _))
      have HRVa := za.mk (show RowI ((W9.alloc (.cells #[.int .i64 (U : Int)] 3)).alloc (.cells #[.int .i64 (V : Int)] 3)) w.heap.size vV xV from ((HRV.out.alloc' _).alloc' _))
      have HOa := za.mk (O2.below lawI HO0.out (zf (zf (Below.refl W9.heap.size W9) (.cells #[.int .i64 (U : Int)] 3)) (.cells #[.int .i64 (V : Int)] 3)))
      have HBa := za.mk (zf (zf HB0.out (.cells #[.int .i64 (U : Int)] 3)) (.cells #[.int .i64 (V : Int)] 3))
      have hb22 := zh (heap_alloc_new W9 (.cells #[.int .i64 (U : Int)] 3)) (.cells #[.int .i64 (V : Int)] 3)
      have hWs : W9.heap.size + 1 ≤ ((W9.alloc (.cells #[.int .i64 (U : Int)] 3)).alloc (.cells #[.int .i64 (V : Int)] 3)).heap.size := by simp
      refine stepI ((W9.alloc (.cells #[.int .i64 (U : Int)] 3)).alloc (.cells #[.int .i64 (V : Int)] 3)) (by rfl) (.tmp 26) (.tmp 29) (by rfl) w.heap.size vU xU (by rfl) HRUa.out (W9.heap.size + 1) V (by rfl) (show _ from by have := heap_alloc_new (W9.alloc (.cells #[.int .i64 (U : Int)] 3)) (.cells #[.int .i64 (V : Int)] 3); simpa using this) HLU.out (by omega) ?_
      generalize ((W9.alloc (.cells #[.int .i64 (U : Int)] 3)).alloc (.cells #[.int .i64 (V : Int)] 3)) = Wa at *
      intro v1 w1 hU1 hgrow hat
      have HV1 := za.mk (show RowI w1 w.heap.size vV xV from own_other HRVa.out hgrow HAP.out)
      have HD22 := za.mk ((hgrow.block _ (qg hb22) (hneU _ (by omega))).trans hb22)
      have hw1 := hgrow.size
      have HS := za.mk (show (fun w' => w'.cell? ⟨q, 0, none⟩ = some (.int .i64 (U : Int)) ∧ w'.cell? ⟨q, 1, none⟩ = some (.int .i64 (V : Int)) ∧ w'.cell? ⟨w.heap.size + 1, U, none⟩ = some vU ∧ w'.cell? ⟨w.heap.size + 1, V, none⟩ = some vV) w1 from ⟨(hgrow.cell_far _ (by simp only; omega) agU').trans HS.out.1, (hgrow.cell_far _ (by simp only; omega) agU').trans HS.out.2.1, (hgrow.cell_far _ (by simp only; omega) atU').trans HS.out.2.2.1, (hgrow.cell_far _ (by simp only; omega) atU').trans HS.out.2.2.2⟩)
      have HG1 := za.mk hgrow; have HA1 := za.mk hat; have HU1 := za.mk hU1; clear hU1 hgrow hat
      refine hK.out _ _ ⟨HS.out, ?_⟩
      clear hK K
      try simp only [Act.put, List.setIfInBounds_toArray, List.set_cons_zero, List.set_cons_succ, List.getElem_toArray, List.getElem_cons_zero, List.getElem_cons_succ]
      refine qx (rs := [23]) (by kernel_rfl) (by simp) (by kernel_rfl) (by kernel_rfl) ?_
      refine List.forall_mem_cons.2 ⟨?_, by simp⟩
      ·refine wpOp_step rfl (fun K hK => ?_)
       replace hK := za.mk hK
       have HBb := za.mk (show Below w1.heap.size w1 w1 from (Below.refl w1.heap.size w1))
       have hws := HBb.out.size
       refine stepI w1 (by rfl) (.tmp 35) (.tmp 38) (by rfl) w.heap.size vV xV (by rfl) HV1.out W9.heap.size U (by rfl) HD22.out HLV.out (by omega) ?_
       intro v2 w2 hV2 hgrow2 hat2
       have HS := za.mk (show (fun w' => w'.cell? ⟨q, 0, none⟩ = some (.int .i64 (U : Int)) ∧ w'.cell? ⟨q, 1, none⟩ = some (.int .i64 (V : Int)) ∧ w'.cell? ⟨w.heap.size + 1, U, none⟩ = some vU ∧ w'.cell? ⟨w.heap.size + 1, V, none⟩ = some vV) w2 from ⟨(hgrow2.cell_far _ (by simp only; omega) agV').trans HS.out.1, (hgrow2.cell_far _ (by simp only; omega) agV').trans HS.out.2.1, (hgrow2.cell_far _ (by simp only; omega) atV').trans HS.out.2.2.1, (hgrow2.cell_far _ (by simp only; omega) atV').trans HS.out.2.2.2⟩)
       have HE := nbr_end (U := U) (V := V) HOa.out (by omega) (by have := HVL.out; omega) (by have := HVL.out; omega) HU1.out (by rw [HvU.out]; exact HG1.out) (by rw [HvU.out]; exact HA1.out) HBb.out hV2 (by rw [HvV.out]; exact hgrow2) (by rw [HvV.out]; exact hat2) HBa.out (by omega)
       rw [HvU.out, HvV.out] at HE
       obtain ⟨hd1, hd2, hd3, hd4, HO5, HB5⟩ := HE
       replace HO5 := za.mk HO5; replace HB5 := za.mk HB5
       refine hK.out _ _ ⟨HS.out, ?_⟩
       clear hK K
       try simp only [Act.put, List.setIfInBounds_toArray, List.set_cons_zero, List.set_cons_succ, List.getElem_toArray, List.getElem_cons_zero, List.getElem_cons_succ]
       obtain ⟨A1, n1, c1, rfl⟩ := RowI.isSlice HU1.out
       obtain ⟨A2, n2, c2, rfl⟩ := RowI.isSlice hV2
       refine zN (fun _ => True) (i := 24) (v := ?_) rfl (by kernel_rfl) (fun _ _ => trivial) (Or.inl fun _ _ => trivial) (by kernel_rfl) (by kernel_rfl) (by kernel_rfl) (fun _ _ _ h => h) (by kernel_rfl) (by kernel_rfl) (Or.inl ⟨by rfl, ?_⟩) HS.out ?_
       rotate_left; (focus (intro w hSw; (try dsimp only at hSw); go_simp; try with_reducible rfl))
       try simp only [Act.put, List.setIfInBounds_toArray, List.set_cons_zero, List.set_cons_succ, List.getElem_toArray, List.getElem_cons_zero, List.getElem_cons_succ]
       refine Zo (by kernel_rfl) (by kernel_rfl) ?_
       refine wpOp_step rfl (fun K hK => ?_)
       replace hK := za.mk hK
       go_simp
       refine hK.out _ _ ⟨(World.cell?_setCell_far _ ⟨w.heap.size + 1, U, none⟩ _ _ (by simp only; omega)).trans HS.out.2.1, ?_⟩
       clear hK K
       try simp only [Act.put, List.setIfInBounds_toArray, List.set_cons_zero, List.set_cons_succ, List.getElem_toArray, List.getElem_cons_zero, List.getElem_cons_succ]
       have HS2 := za.mk ((World.cell?_setCell_far w2 ⟨w.heap.size + 1, U, none⟩ ⟨q, 1, none⟩ (.slice A1 n1 c1) (by simp only; omega)).trans HS.out.2.1)
       refine wpAnyH_take (i := 26) (v := ?_) rfl (by kernel_rfl) (by kernel_rfl) (by kernel_rfl) (fun _ _ _ h => h) (Or.inl ⟨by rfl, ?_⟩) HS2.out ?_
       rotate_left; (focus (intro w hSw; (try dsimp only at hSw); go_simp; try with_reducible rfl))
       try simp only [Act.put, List.setIfInBounds_toArray, List.set_cons_zero, List.set_cons_succ, List.getElem_toArray, List.getElem_cons_zero, List.getElem_cons_succ]
       refine wpAnyH_all (rs := [27]) (by kernel_rfl) (by simp) (List.forall_mem_cons.2 ⟨?_, by simp⟩)
       refine wpOp_step rfl (fun K hK => ?_)
       replace hK := za.mk hK
       go_simp
       refine hK.out _ _ ⟨(World.cell?_setCell_far _ ⟨w.heap.size + 1, V, none⟩ _ _ (by simp only; omega)).trans ((World.cell?_setCell_far _ ⟨w.heap.size + 1, U, none⟩ _ _ (by simp only; omega)).trans HS.out.2.1), ?_⟩
       clear hK K
       try simp only [Act.put, List.setIfInBounds_toArray, List.set_cons_zero, List.set_cons_succ, List.getElem_toArray, List.getElem_cons_zero, List.getElem_cons_succ]
       refine wpAnyH_done (by kernel_rfl) ?_ _
       go_wp2_with fail
       go_roundg (l.length - (j + 1))
       case measure => omega
       case rel => exact ⟨j + 1, _, by omega, by omega, by go_num, ⟨by rw [HT.out, ZK]; simp only [Int.toNat_natCast]; rw [HxU.out, HxV.out]; exact HO5.out⟩, HB5⟩
  ·have hje : j = l.length := by omega
   have HJE := za.mk hje
   have hjb : ¬ (j : Int) < (l.length : Int) := by omega
   have HO3 := za.mk (show OI wr w.heap.size _ vs vs (nbrs n l) by have := HO.out; rw [HJE.out, List.take_length] at this; exact this)
   clear hje HO
   go_wp2_with fail
   go_ret
   exact ⟨_, rfl, ⟨_, HO3.out⟩, HB.out⟩
end Go.Proofs.Ytebehdjjkpffjaa.QPlans
end
section
namespace Go.Proofs.Ytebehdjjkpffjaa.QPlans
open Go.RowKit Go.Proofs.YtebehdjjkpffjaaW.PrintWords Go.Proofs.YtebehdjjkpffjaaW.PrintLast Go.Proofs.YtebehdjjkpffjaaW.PrintMore
theorem info56' : (Try.prog.info? 56).map (fun i => (i.zero, i.size, i.bytes)) = some (some (.agg #[.int .i64 0, .int .i64 0, .bool false]), 3, 24) := by kernel_rfl
def cellsM (l : List S56) : List Value := l.flatMap fun m => [.int .i64 m.f0, .int .i64 m.f1, .bool m.f2]
theorem cellsM_append (a b : List S56) : cellsM (a ++ b) = cellsM a ++ cellsM b := by simp [cellsM]
theorem cellsM_length (a : List S56) : (cellsM a).length = a.length * 3 := by
 induction a with
 | nil => rfl
 | cons x r ih => simp only [cellsM, List.flatMap_cons, List.length_append, List.length_cons, List.length_nil] at ih ⊢; omega
abbrev RowM (w : World) (base : Nat) (v : Value) (l : List S56) : Prop := w.ownsRow base 56 3 v l.length (cellsM l)
theorem lawM : RowLaw RowM 56 3 cellsM List.length := ⟨Iff.rfl⟩
abbrev OM := O2 RowM ([] : List S56) 42
theorem RowM.isSlice {w : World} {base : Nat} {v : Value} {l : List S56} (h : RowM w base v l) : ∃ A n c, v = .slice A n c := by
 rcases h.2 with ⟨h, _⟩ | ⟨g, cap, cur, h, _⟩
 ·exact ⟨_, _, _, h⟩
 ·exact ⟨_, _, _, h⟩
theorem stepM {ops : Array Oper} {o : Oper} {a : Act} {K : Act → World → Prop} {Q : Exit → Act → World → Prop} {E : Prop} (W : World) (hgd : o.guard = none) (s x : Operand)
  (ho : o.op = .call { callee := .builtin .append, args := #[s, x], argTypes := #[42, 42] }) (base : Nat) (v : Value) (l : List S56) (hs : a.eval s = v) (hown : RowM W base v l) (b : Nat) (y : S56)
  (hx : a.eval x = .slice (some ⟨b, 0, none⟩) 1 1) (hb : W.heap[b]? = some (.cells #[.int .i64 y.f0, .int .i64 y.f1, .bool y.f2] 56 (0, 0))) (hl : l.length < 1000000000) (hbase : base ≤ W.heap.size)
  (h : ∀ v1 w1, RowM w1 base v1 (l ++ [y]) → W.grownBy w1 v.ownBlock → (v1.ownBlock = v.ownBlock ∨ ∃ b, v1.ownBlock = some b ∧ W.heap.size ≤ b) → K (a.put o.dst v1) w1) :
  if Region.wanted o (yielded ops a.tmps) = true then Oper.wp Try.prog o a W K Q else E := by
 obtain ⟨i0, hi0, hz0, hz1, hz2⟩ := info_parts info56'
 refine step_append_lies _ hgd s x 42 ho base 56 i0 _ 3 24 Try.underlying42 hi0 hz0 hz1 hz2 rfl (by omega) v l.length (cellsM l) hs hown ⟨b, 0, none⟩ 1 1 [.int .i64 y.f0, .int .i64 y.f1, .bool y.f2] hx rfl (World.news_of_block (cs := #[.int .i64 y.f0, .int .i64 y.f1, .bool y.f2]) (t := 56) (fr := (0, 0)) hb) (by simp [Value.oneCell']) (by omega) (by unfold maxLen; omega) (by omega) hbase W.heap.size rfl ?_
 intro g cap w1 hown1 hg hat _
 refine h _ w1 (by unfold RowM; rw [List.length_append, cellsM_append]; exact hown1) hg ?_
 rcases hat with hat | hat
 ·exact .inl (by rw [hat]; rfl)
 ·exact .inr ⟨g, rfl, by omega⟩
def put1 (b : List (List S56)) (m : S56) (x : Int) : List (List S56) := b.set x.toNat (b.getD x.toNat [] ++ [m])
def tell1 (near : List (List Int)) (owner : List Int) (me : Int) (ks : List Int) (p : Nat → Bool) (b : List (List S56)) (v : Nat) : List (List S56) :=
 if rd owner v != me || !p v then b else (Zh owner (near.getD v []) v).foldl (fun b x => put1 b ⟨v, rd ks v, false⟩ x) b
def told (near : List (List Int)) (owner : List Int) (me : Int) (ks : List Int) (p : Nat → Bool) (n : Nat) (b : List (List S56)) : List (List S56) := (List.range n).foldl (tell1 near owner me ks p) b
theorem put1_length (b : List (List S56)) (m : S56) (x : Int) : (put1 b m x).length = b.length := by simp [put1]
theorem puts_length (m : S56) (l : List Int) (b : List (List S56)) : (l.foldl (fun b x => put1 b m x) b).length = b.length := by
 induction l generalizing b with
 | nil => rfl
 | cons x r ih => rw [List.foldl_cons, ih, put1_length]
theorem tell1_length {near : List (List Int)} {owner : List Int} {me : Int} {ks : List Int} {p : Nat → Bool} (b : List (List S56)) (v : Nat) : (tell1 near owner me ks p b v).length = b.length := by
 unfold tell1
 split
 ·rfl
 ·rw [puts_length]
theorem told_succ {near : List (List Int)} {owner : List Int} {me : Int} {ks : List Int} {p : Nat → Bool} (n : Nat) (b : List (List S56)) : told near owner me ks p (n + 1) b = tell1 near owner me ks p (told near owner me ks p n b) n := by
 unfold told; rw [List.range_succ, List.foldl_append]; rfl
theorem told_length {near : List (List Int)} {owner : List Int} {me : Int} {ks : List Int} {p : Nat → Bool} (n : Nat) (b : List (List S56)) : (told near owner me ks p n b).length = b.length := by
 induction n with
 | zero => rfl
 | succ n ih => rw [told_succ, tell1_length, ih]
theorem put1_row (b : List (List S56)) (m : S56) (x : Int) (M : Nat) (h : ∀ i, (b.getD i []).length ≤ M) : ∀ i, ((put1 b m x).getD i []).length ≤ M + 1 := by
 intro i
 have h1 := h x.toNat
 have h2 := h i
 unfold put1
 simp only [List.getD_eq_getElem?_getD, List.getElem?_set] at h1 h2 ⊢
 split
 ·split
  ·simp only [Option.getD_some, List.length_append, List.length_cons, List.length_nil]; omega
  ·simp
 ·omega
theorem puts_row (m : S56) (l : List Int) (b : List (List S56)) (M : Nat) (h : ∀ i, (b.getD i []).length ≤ M) : ∀ i, ((l.foldl (fun b x => put1 b m x) b).getD i []).length ≤ M + l.length := by
 induction l generalizing b M with
 | nil => exact h
 | cons x r ih =>
  intro i
  rw [List.foldl_cons]
  have := ih (put1 b m x) (M + 1) (put1_row b m x M h) i
  rw [List.length_cons]; omega
theorem owners_len (owner nv : List Int) (v : Int) : (Zh owner nv v).length ≤ nv.length := by
 unfold Zh
 refine Nat.le_trans (compact_le _) ?_
 unfold srt
 rw [srt_length]
 unfold Zt
 exact Nat.le_trans (List.length_filter_le _ _) (by rw [List.length_map]; exact Nat.le_refl _)
theorem mem_compactI {zs : List Int} {x : Int} (h : x ∈ Lib.compact zs) : x ∈ zs := by
 unfold Lib.compact Lib.compactUpTo at h
 rw [List.mem_map] at h
 obtain ⟨j, hj, rfl⟩ := h
 rw [List.mem_filter, List.mem_range] at hj
 have : j < zs.length := hj.1
 simp [this]
theorem owners_mem {owner nv : List Int} {v x : Int} (h : x ∈ Zh owner nv v) : ∃ u ∈ nv, x = rd owner u := by
 have h1 := mem_compactI h
 unfold srt at h1
 rw [List.mem_mergeSort] at h1
 unfold Zt at h1
 rw [List.mem_filter, List.mem_map] at h1
 obtain ⟨⟨u, hu, rfl⟩, _⟩ := h1
 exact ⟨u, hu, rfl⟩
end Go.Proofs.Ytebehdjjkpffjaa.QPlans
end
section
namespace Go.Proofs.Ytebehdjjkpffjaa.QPlans
open Go.RowKit Go.Proofs.YtebehdjjkpffjaaW.PrintWords Go.Proofs.YtebehdjjkpffjaaW.PrintLast Go.Proofs.YtebehdjjkpffjaaW.PrintMore
theorem F_block {w : World} {A : Addr} {B : Nat} {l : List Int} (h : Kd.F (Kd.int .i64) w (fun k => k < B) (some A) l.length l) {j : Nat} (hj : j < l.length) : A.block < B := by
 obtain ⟨ad, c, e, _, _, _, h5⟩ := Kd.F_get h 0 (j : Int) (by omega) (by omega)
 injection e with e
 subst e
 exact h5 (by decide)
theorem RowI.lenSlice {w : World} {base : Nat} {v : Value} {l : List Int} (h : RowI w base v l) : ∃ A c, v = .slice A l.length c := by
 rcases h.2 with ⟨h, h0⟩ | ⟨g, cap, cur, h, _⟩
 ·exact ⟨none, 0, by rw [h, h0]⟩
 ·exact ⟨_, _, h⟩
theorem OM_store {W w1 : World} {base g n c U : Nat} {vs : List Value} {xss : List (List S56)} {v1 : Value} {y1 : List S56} {w : World}
  (hO : OM W base (.slice (some ⟨g, 0, none⟩) n c) vs vs xss) (hU : U < vs.length)
  (h1 : RowM w1 base v1 y1) (hg1 : W.grownBy w1 (vs.getD U nilv).ownBlock) (hat1 : v1.ownBlock = (vs.getD U nilv).ownBlock ∨ ∃ b, v1.ownBlock = some b ∧ W.heap.size ≤ b) (hB : Below base w W) (hs : base ≤ W.heap.size) :
  w1.cell? ⟨g, U, none⟩ = some (vs.getD U nilv) ∧ w1.frozen? ⟨g, U, none⟩ = false ∧
   OM (w1.setCell ⟨g, U, none⟩ v1) base (.slice (some ⟨g, 0, none⟩) n c) (vs.set U v1) (vs.set U v1) (xss.set U y1) ∧ Below base w (w1.setCell ⟨g, U, none⟩ v1) ∧ w1.grownBy (w1.setCell ⟨g, U, none⟩ v1) (some g) := by
 have o1 := hO.append lawM (by decide) U hU h1 hg1 hat1
 have eU : (vs.set U v1).getD U nilv = v1 := by rw [Qe _ _ _ _ _ hU, if_pos rfl]
 obtain ⟨c1, f1, o4, g4⟩ := o1.store lawM (by decide) U hU
 rw [eU] at o4 g4
 rw [add_plain] at c1 f1 o4 g4
 have b1 := hB.grown hg1 hs (Za (hO.row U hU))
 have s1 := hg1.size
 exact ⟨c1, f1, o4, b1.grown g4 (by omega) (Za o1.top), g4⟩
set_option maxHeartbeats 1600000 in
set_option maxRecDepth 100000 in
theorem tell_c (fid : Nat) (lb : Array Value) (p : Nat → Bool) (eg : ∀ args w, (callFunc fid args).run Try.prog w = .ok (.enter fid args) w)
  (wk : Int) (Ao : Option Addr) (co : Nat) (owner : List Int) (Ah : Option Addr) (nh ch : Nat) (An : Option Addr) (cn : Nat) (near : List (List Int)) (me : Int) (Ak : Option Addr) (ck : Nat) (ks : List Int)
  (g c base : Nat) (vs : List Value) (bs : List (List S56)) (w : World)
  (sh : Shape near owner ks.length) (hsm : ks.length ≤ 1000) (hrow : ∀ l ∈ near, l.length ≤ 10000) (hown : ∀ x ∈ owner, 0 ≤ x ∧ x < bs.length)
  (ho : Kd.F (Kd.int .i64) w (fun k => k < base) Ao owner.length owner) (hn : Kd.F (Kd.slice 3 (Kd.int .i64)) w (fun k => k < base) An near.length near) (hk : Kd.F (Kd.int .i64) w (fun k => k < base) Ak ks.length ks)
  (hO : OM w base (.slice (some ⟨g, 0, none⟩) bs.length c) vs vs bs) (hlen : ∀ i, (bs.getD i []).length ≤ 1000000) (hbase : base ≤ w.heap.size)
  (hp : ∀ (W : World) (v : Nat), v < ks.length → Below base w W → Calls Try.prog fid (#[.int .i64 v] ++ lb) W fun e w' => e = .returned (.bool (p v)) ∧ Below W.heap.size W w') :
  Calls Try.prog 37 #[.agg #[.int .i64 wk, .slice Ao owner.length co, .slice Ah nh ch, .slice An near.length cn, .int .i64 me, .slice Ak ks.length ck], .slice (some ⟨g, 0, none⟩) bs.length c, .func (.func fid) #[] lb] w fun e w' =>
   e = .returned (.tuple #[]) ∧ (∃ vs', OM w' base (.slice (some ⟨g, 0, none⟩) bs.length c) vs' vs' (told near owner me ks p ks.length bs)) ∧ Below base w w' := by
 have HO := za.mk hO
 have HOW := za.mk ho
 have HN := za.mk hn
 have HK := za.mk hk
 have HP := za.mk hp
 have HS := za.mk sh
 have HW := za.mk hown
 have HL := za.mk hlen
 have HR := za.mk hrow
 have HNL := za.mk sh.nl
 have HOL := za.mk sh.ol
 have hvl : vs.length = bs.length := hO.lx.symm
 have hbs : bs.length ≤ 9223372036854775807 := by
  have := hO.top
  rcases this.2 with ⟨h, _⟩ | ⟨g', cap, cur, h, _, _, h1, h2, _⟩
  ·cases h
  ·have := h1; have := h2; unfold maxLen at h2; omega
 clear hO ho hn hk hp sh hown hlen hrow
 go_enter Try.func37, Try.ntmps37
 go_wp2_with fail
 have HB1 := za.mk (zf (Below.refl w.heap.size w) (.cells #[.int .i64 wk, .slice Ao owner.length co, .slice Ah nh ch, .slice An near.length cn, .int .i64 me, .slice Ak ks.length ck] 79))
 have HX := za.mk (heap_alloc_new w (.cells #[.int .i64 wk, .slice Ao owner.length co, .slice Ah nh ch, .slice An near.length cn, .int .i64 me, .slice Ak ks.length ck] 79))
 have HO1 := za.mk (O2.below lawM HO.out HB1.out)
 have HB := za.mk (HB1.out.mono hbase)
 clear HB1 HO
 generalize w.alloc (.cells #[.int .i64 wk, .slice Ao owner.length co, .slice Ah nh ch, .slice An near.length cn, .int .i64 me, .slice Ak ks.length ck] 79) = W1 at *
 go_loopg [13] ks.length (fun gg s13 wr => ∃ (j : Nat) (vs : List Value), j ≤ ks.length ∧ ks.length - j ≤ gg ∧ s13 = .int .i64 j ∧ vs.length = bs.length ∧ za (OM wr base (.slice (some ⟨g, 0, none⟩) bs.length c) vs vs (told near owner me ks p j bs)) ∧ za (∀ i, ((told near owner me ks p j bs).getD i []).length ≤ 1000000 + j * 10000) ∧ za (Below base w wr) ∧ za (wr.heap[w.heap.size]? = some (.cells #[.int .i64 wk, .slice Ao owner.length co, .slice Ah nh ch, .slice An near.length cn, .int .i64 me, .slice Ak ks.length ck] 79 (0, 0))))
 case atStart => exact ⟨0, vs, Nat.zero_le _, by omega, rfl, hvl, HO1, ⟨fun i => by have := HL.out i; simpa [told] using this⟩, HB, HX⟩
 case round =>
  clear HB HO1 HX
  obtain ⟨j, vs, hj, hgj, rfl, hvl, HO, HRL, HB, HX⟩ := hrel
  by_cases hjl : j < ks.length
  ·have hjn : (j : Int) < (near.length : Int) := by have := HNL.out; omega
   have hjo : (j : Int) < (owner.length : Int) := by have := HOL.out; omega
   have hjk : (j : Int) < (ks.length : Int) := by omega
   have hj0 : (0 : Int) ≤ (j : Int) := by omega
   have HFo := za.mk (Kd.F_now (qZ HOW.out HB.out (fun _ h => h)))
   have HFk := za.mk (Kd.F_now (qZ HK.out HB.out (fun _ h => h)))
   have HFn := za.mk (Kd.F_now (qZ HN.out HB.out (fun _ h => h)))
   obtain ⟨ado, e, hxo⟩ := intAt HFo.out j (by have := HOL.out; omega)
   cases e
   have HT := za.mk (told_succ (near := near) (owner := owner) (me := me) (ks := ks) (p := p) j bs)
   have EO := za.mk (show rd owner (j : Int) = owner[j] from Zv _ _ (by have := HOL.out; omega))
   have HRL2 := za.mk (show ∀ i, ((told near owner me ks p (j + 1) bs).getD i []).length ≤ 1000000 + (j + 1) * 10000 from fun i => by
    rw [HT.out]
    have h0 := HRL.out i
    unfold tell1
    split
    ·omega
    ·have h1 := puts_row ⟨j, rd ks j, false⟩ (Zh owner (near.getD j []) j) _ _ HRL.out i
     have h2 := owners_len owner (near.getD j []) j
     have h3 := HR.out (near.getD j []) (by rw [List.getD_eq_getElem?_getD, List.getElem?_eq_getElem (show j < near.length by have := HNL.out; omega)]; exact List.getElem_mem _)
     omega)
   have hxol := World.block_lt_of_cell? wr _ hxo
   have hqs := qg HX.out
   have hq0 := ze HX.out 0
   have hq1 := ze HX.out 1
   have hq2 := ze HX.out 2
   have hq3 := ze HX.out 3
   have hq4 := ze HX.out 4
   have hq5 := ze HX.out 5
   have HBS := za.mk (Nat.le_trans hbase HB.out.size)
   have hpc := HP.out
   clear HP
   have HP := za.mk hpc
   clear hpc
   generalize owner[j] = ov at *
   by_cases hov : ov = me
   ·have hovb : (ov != me) = false := by simp [hov]
    have HOV := za.mk hovb
    clear hov
    have hcall := HP.out wr.drew j hjl (show Below base w wr.drew from zb HB.out 1)
    cases hpj : p j with
    | true =>
     rw [hpj] at hcall
     have HPJ := za.mk hpj
     clear hpj
     go_wp2_with fail
     go_region_held3 (fun w' => w'.cell? ⟨w.heap.size, 1, none⟩ = some (.slice (some ado) owner.length co) ∧ w'.cell? ⟨w.heap.size, 4, none⟩ = some (.int .i64 me) ∧ w'.cell? (ado.add j) = some (.int .i64 ov)) (first | go_keep | exact ⟨(hb'.cell (p := ⟨w.heap.size, 1, none⟩) hqs).trans hq1, (hb'.cell (p := ⟨w.heap.size, 4, none⟩) hqs).trans hq4, (hb'.cell (p := ado.add j) hxol).trans hxo⟩) (first | (refine hcall.mono ?_; rintro e w' ⟨rfl, hb'⟩))
     have HBr := za.mk (show Below wr.heap.size wr w' from (zb (Below.refl _ _) 1).trans hb')
     have HB3 := za.mk (HB.out.trans (HBr.out.mono HBS.out))
     have HX3 := za.mk ((HBr.out.block _ hqs).trans HX.out)
     have HO3 := za.mk (O2.below lawM HO.out HBr.out)
     have HFo3 := za.mk (Kd.F_now (qZ HOW.out HB3.out (fun _ h => h)))
     have HFk3 := za.mk (Kd.F_now (qZ HK.out HB3.out (fun _ h => h)))
     have HFn3 := za.mk (Kd.F_now (qZ HN.out HB3.out (fun _ h => h)))
     clear hb' hcall hq0 hq1 hq2 hq3 hq4 hq5 hxo hxol
     have hq0 := ze HX3.out 0
     have hq1 := ze HX3.out 1
     have hq2 := ze HX3.out 2
     have hq3 := ze HX3.out 3
     have hq4 := ze HX3.out 4
     have hq5 := ze HX3.out 5
     have hqs3 := qg HX3.out
     have HBS3 := za.mk (Nat.le_trans hbase HB3.out.size)
     generalize hw3 : w' = w3 at *
     clear hw3
     go_wp2_with fail
     refine (owners_c wk (some ado) co owner Ah nh ch An cn near ks.length j w3 HS.out hjl HFo3.out HFn3.out).mono ?_
     rintro e w4 ⟨r, rfl, hr, hb4⟩
     have HR4 := za.mk hr
     have HB4 := za.mk (HB3.out.trans (hb4.mono HBS3.out))
     have HX4 := za.mk ((hb4.block _ hqs3).trans HX3.out)
     have HO4 := za.mk (O2.below lawM HO3.out hb4)
     have HTE := za.mk (show told near owner me ks p (j + 1) bs = (Zh owner (near.getD j []) j).foldl (fun b x => put1 b ⟨j, rd ks j, false⟩ x) (told near owner me ks p j bs) by rw [HT.out, tell1, EO.out, HOV.out, HPJ.out]; rfl)
     have HOS := za.mk (show ∀ x ∈ Zh owner (near.getD j []) j, 0 ≤ x ∧ x < bs.length from fun x hx => by
      obtain ⟨u, hu, rfl⟩ := owners_mem hx
      have h1 := HS.out.nodes (near.getD j []) (by rw [List.getD_eq_getElem?_getD, List.getElem?_eq_getElem (show j < near.length by have := HNL.out; omega)]; exact List.getElem_mem _) u hu
      have h2 : u.toNat < owner.length := by have := HOL.out; omega
      have h3 : rd owner u = owner[u.toNat] := by have := Zv owner u.toNat h2; rw [Int.toNat_of_nonneg h1.1] at this; exact this
      rw [h3]
      exact HW.out _ (List.getElem_mem h2))
     have HOSL := za.mk (show (Zh owner (near.getD j []) j).length ≤ 10000 by
      have h2 := owners_len owner (near.getD j []) j
      have h3 := HR.out (near.getD j []) (by rw [List.getD_eq_getElem?_getD, List.getElem?_eq_getElem (show j < near.length by have := HNL.out; omega)]; exact List.getElem_mem _)
      omega)
     generalize hos : Zh owner (near.getD j []) j = os at *
     have HRL4 := za.mk HRL.out
     clear hr hb4 hq0 hq1 hq2 hq3 hq4 hq5 hos HO3 HX3 HB3 HFo3 HFk3 HFn3 HFo HFk HFn HP HRL HB HO HX
     generalize told near owner me ks p j bs = b0 at *
     obtain ⟨Ar, cr, e⟩ := RowI.lenSlice HR4.out
     subst e
     go_wp2_with fail
     go_loopg [37] os.length (fun gg s37 w5 => ∃ (i : Nat) (vs : List Value), i ≤ os.length ∧ os.length - i ≤ gg ∧ s37 = .int .i64 i ∧ vs.length = bs.length ∧ za (OM w5 base (.slice (some ⟨g, 0, none⟩) bs.length c) vs vs ((os.take i).foldl (fun b x => put1 b ⟨j, rd ks j, false⟩ x) b0)) ∧ za (Below base w w5) ∧ za (w5.heap[w.heap.size]? = some (.cells #[.int .i64 wk, .slice (some ado) owner.length co, .slice Ah nh ch, .slice An near.length cn, .int .i64 me, .slice Ak ks.length ck] 79 (0, 0))) ∧ za (RowI w5 w3.heap.size (.slice Ar os.length cr) os))
     case atStart => exact ⟨0, vs, Nat.zero_le _, by omega, rfl, hvl, HO4, HB4, HX4, HR4⟩
     case round =>
      obtain ⟨i, vs, hi, hgi, rfl, hvl, HO, HB, HX, HR⟩ := hrel
      by_cases hil : i < os.length
      ·skip
       have hib : (i : Int) < (os.length : Int) := by omega
       have hjk : (j : Int) < (ks.length : Int) := by omega
       have hcR := HR.out.reads'.2.2
       obtain ⟨adr, e, hxo⟩ := intAt hcR i hil
       cases e
       have HTT := za.mk (show (os.take (i + 1)).foldl (fun b x => put1 b ⟨j, rd ks j, false⟩ x) b0 = put1 ((os.take i).foldl (fun b x => put1 b ⟨j, rd ks j, false⟩ x) b0) ⟨j, rd ks j, false⟩ os[i] by rw [List.take_succ_eq_append_getElem hil, List.foldl_append]; rfl)
       have HY := za.mk (HOS.out _ (List.getElem_mem hil))
       generalize os[i] = y at *
       obtain ⟨X, rfl⟩ := Int.eq_ofNat_of_zero_le HY.out.1
       have hXb : X < bs.length := by have := HY.out.2; omega
       have hXI : (X : Int) < (bs.length : Int) := by omega
       have hX0 : (0 : Int) ≤ (X : Int) := by omega
       have HFk5 := za.mk (Kd.F_now (qZ HK.out HB.out (fun _ h => h)))
       obtain ⟨adk, e, hxk⟩ := intAt HFk5.out j hjl
       cases e
       have EK := za.mk (show rd ks (j : Int) = ks[j] from Zv _ _ hjl)
       generalize ks[j] = kj at *
       have hadk : adk.block < base := F_block HK.out hjl
       have hqs5 := qg HX.out
       have hq5 := ze HX.out 5
       obtain ⟨hcX, hfX, _, _⟩ := HO.out.store lawM (by decide) X (by omega)
       rw [add_plain] at hcX hfX
       have HRX := za.mk (HO.out.row X (by omega))
       have hrl : ((((os.take i).foldl (fun b x => put1 b ⟨j, rd ks j, false⟩ x) b0)).getD X []).length ≤ 1000000 + j * 10000 + i := by
        have := puts_row ⟨j, rd ks j, false⟩ (os.take i) b0 _ HRL4.out X
        rw [List.length_take] at this
        omega
       have hrl2 : ((((os.take i).foldl (fun b x => put1 b ⟨j, rd ks j, false⟩ x) b0)).getD X []).length < 1000000000 := by have := HOSL.out; omega
       have HRL5 := za.mk hrl2
       clear hrl hrl2
       generalize (os.take i).foldl (fun b x => put1 b ⟨j, rd ks j, false⟩ x) b0 = b1 at *
       generalize hvX : vs.getD X nilv = vX at *
       generalize hxX : b1.getD X [] = xX at *
       have HvX := za.mk hvX
       have HxX := za.mk hxX
       clear hvX hxX
       have atq : some w.heap.size ≠ vX.ownBlock := own_ne HRX.out HX.out (by decide)
       have atg : some g ≠ vX.ownBlock := fun e => (Zx HRX.out HO.out.top (by decide)).elim (fun h => by rw [h] at e; cases e) (fun h => h (by rw [← e]; rfl))
       have atk : some adk.block ≠ vX.ownBlock := fun e => by have := Za HRX.out _ e.symm; omega
       have hgs : g < wr.heap.size := blk_lt_of_own HO.out.top
       have hks5 : adk.block < wr.heap.size := by have := HB.out.size; omega
       have hb5 : base ≤ wr.heap.size := by have := HB.out.size; omega
       have hgq : g ≠ w.heap.size := fun e => own_ne HO.out.top HX.out (by decide) (by rw [e]; rfl)
       go_wp2_with fail
       have HS1 := za.mk (show (fun w' => w'.cell? ⟨w.heap.size, 5, none⟩ = some (.slice (some adk) ks.length ck) ∧ w'.cell? (adk.add j) = some (.int .i64 kj) ∧ w'.cell? ⟨g, X, none⟩ = some vX) wr.drew from ⟨hq5, hxk, hcX⟩)
       refine ZC 16 (fun w' => w'.cell? ⟨w.heap.size, 5, none⟩ = some (.slice (some adk) ks.length ck) ∧ w'.cell? (adk.add j) = some (.int .i64 kj) ∧ w'.cell? ⟨g, X, none⟩ = some vX) (fun _ => True) (by kernel_rfl) ?_
       replace HO := za.mk (O2.below lawM HO.out (show Below wr.heap.size wr wr.drew from zb (Below.refl wr.heap.size wr) 1))
       replace HB := za.mk (show Below base w wr.drew from zb HB.out 1)
       replace HRX := za.mk (show RowM wr.drew base vX xX from HRX.out)
       replace HR := za.mk (show RowI wr.drew w3.heap.size (.slice (some adr) os.length cr) os from HR.out)
       replace HX := za.mk (show wr.drew.heap[w.heap.size]? = _ from HX.out)
       replace hgs : g < wr.drew.heap.size := hgs
       replace hks5 : adk.block < wr.drew.heap.size := hks5
       replace hqs5 : w.heap.size < wr.drew.heap.size := hqs5
       replace hb5 : base ≤ wr.drew.heap.size := hb5
       clear hcX hfX hxk hq5 HFk5 hcR hxo
       generalize wr.drew = w9 at *
       refine zN (fun _ => True) (i := 0) (v := ?_) rfl (by kernel_rfl) (fun _ _ => trivial) (Or.inl fun _ _ => trivial) (by kernel_rfl) (by kernel_rfl) (by kernel_rfl) (fun _ _ _ h => h) (by kernel_rfl) (by kernel_rfl) (Or.inl ⟨by rfl, ?_⟩) HS1.out ?_
       rotate_left; (focus (intro w hSw; (try dsimp only at hSw); go_simp; try with_reducible rfl))
       try simp only [Act.put, List.setIfInBounds_toArray, List.set_cons_zero, List.set_cons_succ, List.getElem_toArray, List.getElem_cons_zero, List.getElem_cons_succ]
       refine zN (fun _ => True) (i := 1) (v := ?_) rfl (by kernel_rfl) (fun _ _ => trivial) (Or.inl fun _ _ => trivial) (by kernel_rfl) (by kernel_rfl) (by kernel_rfl) (fun _ _ _ h => h) (by kernel_rfl) (by kernel_rfl) (Or.inl ⟨by rfl, ?_⟩) HS1.out ?_
       rotate_left; (focus (intro w hSw; (try dsimp only at hSw); go_simp; try with_reducible rfl))
       try simp only [Act.put, List.setIfInBounds_toArray, List.set_cons_zero, List.set_cons_succ, List.getElem_toArray, List.getElem_cons_zero, List.getElem_cons_succ]
       refine zN (fun _ => True) (i := 2) (v := ?_) rfl (by kernel_rfl) (fun _ _ => trivial) (Or.inl fun _ _ => trivial) (by kernel_rfl) (by kernel_rfl) (by kernel_rfl) (fun _ _ _ h => h) (by kernel_rfl) (by kernel_rfl) (Or.inl ⟨by rfl, ?_⟩) HS1.out ?_
       rotate_left; (focus (intro w hSw; (try dsimp only at hSw); go_simp; try with_reducible rfl))
       try simp only [Act.put, List.setIfInBounds_toArray, List.set_cons_zero, List.set_cons_succ, List.getElem_toArray, List.getElem_cons_zero, List.getElem_cons_succ]
       refine zN (fun _ => True) (i := 3) (v := ?_) rfl (by kernel_rfl) (fun _ _ => trivial) (Or.inl fun _ _ => trivial) (by kernel_rfl) (by kernel_rfl) (by kernel_rfl) (fun _ _ _ h => h) (by kernel_rfl) (by kernel_rfl) (Or.inl ⟨by rfl, ?_⟩) HS1.out ?_
       rotate_left; (focus (intro w hSw; (try dsimp only at hSw); go_simp; try with_reducible rfl))
       try simp only [Act.put, List.setIfInBounds_toArray, List.set_cons_zero, List.set_cons_succ, List.getElem_toArray, List.getElem_cons_zero, List.getElem_cons_succ]
       refine zN (fun _ => True) (i := 4) (v := ?_) rfl (by kernel_rfl) (fun _ _ => trivial) (Or.inl fun _ _ => trivial) (by kernel_rfl) (by kernel_rfl) (by kernel_rfl) (fun _ _ _ h => h) (by kernel_rfl) (by kernel_rfl) (Or.inl ⟨by rfl, ?_⟩) HS1.out ?_
       rotate_left; (focus (intro w hSw; (try dsimp only at hSw); go_simp; try with_reducible rfl))
       try simp only [Act.put, List.setIfInBounds_toArray, List.set_cons_zero, List.set_cons_succ, List.getElem_toArray, List.getElem_cons_zero, List.getElem_cons_succ]
       refine zN _ (i := 5) (v := ?_) rfl (by kernel_rfl) (fun _ h => h) (Or.inr (by kernel_rfl)) (by kernel_rfl) (by kernel_rfl) (by kernel_rfl) (fun _ _ _ h => h) (by kernel_rfl) (by kernel_rfl) (Or.inl ⟨by rfl, ?_⟩) HS1.out ?_
       rotate_left; (focus (intro w hSw; (try dsimp only at hSw); go_simp; try with_reducible rfl))
       try simp only [Act.put, List.setIfInBounds_toArray, List.set_cons_zero, List.set_cons_succ, List.getElem_toArray, List.getElem_cons_zero, List.getElem_cons_succ]
       refine zN (fun _ => True) (i := 6) (v := ?_) rfl (by kernel_rfl) (fun _ _ => trivial) (Or.inl fun _ _ => trivial) (by kernel_rfl) (by kernel_rfl) (by kernel_rfl) (fun _ _ _ h => h) (by kernel_rfl) (by kernel_rfl) (Or.inl ⟨by rfl, ?_⟩) HS1.out ?_
       rotate_left; (focus (intro w hSw; (try dsimp only at hSw); go_simp; try with_reducible rfl))
       try simp only [Act.put, List.setIfInBounds_toArray, List.set_cons_zero, List.set_cons_succ, List.getElem_toArray, List.getElem_cons_zero, List.getElem_cons_succ]
       refine zN (fun _ => True) (i := 7) (v := ?_) rfl (by kernel_rfl) (fun _ _ => trivial) (Or.inl fun _ _ => trivial) (by kernel_rfl) (by kernel_rfl) (by kernel_rfl) (fun _ _ _ h => h) (by kernel_rfl) (by kernel_rfl) (Or.inl ⟨by rfl, ?_⟩) HS1.out ?_
       rotate_left; (focus (intro w hSw; (try dsimp only at hSw); go_simp; try with_reducible rfl))
       try simp only [Act.put, List.setIfInBounds_toArray, List.set_cons_zero, List.set_cons_succ, List.getElem_toArray, List.getElem_cons_zero, List.getElem_cons_succ]
       refine zN _ (i := 8) (v := ?_) rfl (by kernel_rfl) (fun _ h => h) (Or.inr (by kernel_rfl)) (by kernel_rfl) (by kernel_rfl) (by kernel_rfl) (fun _ _ _ h => h) (by kernel_rfl) (by kernel_rfl) (Or.inl ⟨by rfl, ?_⟩) HS1.out ?_
       rotate_left; (focus (intro w hSw; (try dsimp only at hSw); go_simp; try with_reducible rfl))
       try simp only [Act.put, List.setIfInBounds_toArray, List.set_cons_zero, List.set_cons_succ, List.getElem_toArray, List.getElem_cons_zero, List.getElem_cons_succ]
       refine zN (fun _ => True) (i := 9) (v := ?_) rfl (by kernel_rfl) (fun _ _ => trivial) (Or.inl fun _ _ => trivial) (by kernel_rfl) (by kernel_rfl) (by kernel_rfl) (fun _ _ _ h => h) (by kernel_rfl) (by kernel_rfl) (Or.inl ⟨by rfl, ?_⟩) HS1.out ?_
       rotate_left; (focus (intro w hSw; (try dsimp only at hSw); go_simp; try with_reducible rfl))
       try simp only [Act.put, List.setIfInBounds_toArray, List.set_cons_zero, List.set_cons_succ, List.getElem_toArray, List.getElem_cons_zero, List.getElem_cons_succ]
       refine zN (fun _ => True) (i := 10) (v := ?_) rfl (by kernel_rfl) (fun _ _ => trivial) (Or.inl fun _ _ => trivial) (by kernel_rfl) (by kernel_rfl) (by kernel_rfl) (fun _ _ _ h => h) (by kernel_rfl) (by kernel_rfl) (Or.inl ⟨by rfl, ?_⟩) HS1.out ?_
       rotate_left; (focus (intro w hSw; (try dsimp only at hSw); go_simp; try with_reducible rfl))
       try simp only [Act.put, List.setIfInBounds_toArray, List.set_cons_zero, List.set_cons_succ, List.getElem_toArray, List.getElem_cons_zero, List.getElem_cons_succ]
       refine zN _ (i := 11) (v := ?_) rfl (by kernel_rfl) (fun _ h => h) (Or.inr (by kernel_rfl)) (by kernel_rfl) (by kernel_rfl) (by kernel_rfl) (fun _ _ _ h => h) (by kernel_rfl) (by kernel_rfl) (Or.inl ⟨by rfl, ?_⟩) HS1.out ?_
       rotate_left; (focus (intro w hSw; (try dsimp only at hSw); go_simp; try with_reducible rfl))
       try simp only [Act.put, List.setIfInBounds_toArray, List.set_cons_zero, List.set_cons_succ, List.getElem_toArray, List.getElem_cons_zero, List.getElem_cons_succ]
       refine zN (fun _ => True) (i := 12) (v := ?_) rfl (by kernel_rfl) (fun _ _ => trivial) (Or.inl fun _ _ => trivial) (by kernel_rfl) (by kernel_rfl) (by kernel_rfl) (fun _ _ _ h => h) (by kernel_rfl) (by kernel_rfl) (Or.inl ⟨by rfl, ?_⟩) HS1.out ?_
       rotate_left; (focus (intro w hSw; (try dsimp only at hSw); go_simp; try with_reducible rfl))
       try simp only [Act.put, List.setIfInBounds_toArray, List.set_cons_zero, List.set_cons_succ, List.getElem_toArray, List.getElem_cons_zero, List.getElem_cons_succ]
       refine qx (rs := [13]) (by kernel_rfl) (by simp) (by kernel_rfl) (by kernel_rfl) ?_
       refine List.forall_mem_cons.2 ⟨?_, by simp⟩
       refine wpOp_step rfl (fun K hK => ?_)
       replace hK := za.mk hK
       go_simp
       have HS1 := za.mk (show (fun w' => w'.cell? ⟨w.heap.size, 5, none⟩ = some (.slice (some adk) ks.length ck) ∧ w'.cell? (adk.add j) = some (.int .i64 kj) ∧ w'.cell? ⟨g, X, none⟩ = some vX) (w9.alloc (.cells #[.int .i64 (j : Int), .int .i64 kj, .bool false] 56)) from ⟨(World.cell?_alloc_past _ _ _ hqs5).trans HS1.out.1, (World.cell?_alloc_lt _ _ _ (World.block_lt_of_cell? _ _ HS1.out.2.1)).trans HS1.out.2.1, (World.cell?_alloc_past _ _ _ hgs).trans HS1.out.2.2⟩)
       refine hK.out _ _ ⟨HS1.out, ?_⟩
       clear hK K
       try simp only [Act.put, List.setIfInBounds_toArray, List.set_cons_zero, List.set_cons_succ, List.getElem_toArray, List.getElem_cons_zero, List.getElem_cons_succ]
       refine qx (rs := [14]) (by kernel_rfl) (by simp) (by kernel_rfl) (by kernel_rfl) ?_
       refine List.forall_mem_cons.2 ⟨?_, by simp⟩
       refine wpOp_step rfl (fun K hK => ?_)
       replace hK := za.mk hK
       have HRXa := za.mk (show RowM (w9.alloc (.cells #[.int .i64 (j : Int), .int .i64 kj, .bool false] 56)) base vX xX from World.ownsRow.alloc HRX.out _)
       have HOa := za.mk (O2.below lawM HO.out (zf (Below.refl w9.heap.size w9) (.cells #[.int .i64 (j : Int), .int .i64 kj, .bool false] 56)))
       have HBa := za.mk (qO HB.out hb5 (.cells #[.int .i64 (j : Int), .int .i64 kj, .bool false] 56))
       have HRa := za.mk (show RowI (w9.alloc (.cells #[.int .i64 (j : Int), .int .i64 kj, .bool false] 56)) w3.heap.size (.slice (some adr) os.length cr) os from World.ownsRow.alloc HR.out _)
       have HXa := za.mk (zh HX.out (.cells #[.int .i64 (j : Int), .int .i64 kj, .bool false] 56))
       have hws : w9.heap.size ≤ (w9.alloc (.cells #[.int .i64 (j : Int), .int .i64 kj, .bool false] 56)).heap.size := by simp
       refine stepM (w9.alloc (.cells #[.int .i64 (j : Int), .int .i64 kj, .bool false] 56)) (by rfl) (.tmp 46) (.tmp 54) (by rfl) base vX xX (by rfl) HRXa.out w9.heap.size ⟨j, kj, false⟩ (by rfl) (heap_alloc_new w9 _) HRL5.out (by omega) ?_
       generalize w9.alloc (.cells #[.int .i64 (j : Int), .int .i64 kj, .bool false] 56) = Wa at *
       intro v1 w1 h1 hgrow hat
       have HS1 := za.mk (show (fun w' => w'.cell? ⟨w.heap.size, 5, none⟩ = some (.slice (some adk) ks.length ck) ∧ w'.cell? (adk.add j) = some (.int .i64 kj) ∧ w'.cell? ⟨g, X, none⟩ = some vX) w1 from ⟨(hgrow.cell_far _ (by simp only; omega) atq).trans HS1.out.1, (hgrow.cell_far _ (by simp only [add_block]; omega) (by simp only [add_block]; exact atk)).trans HS1.out.2.1, (hgrow.cell_far _ (by simp only; omega) atg).trans HS1.out.2.2⟩)
       have HE := OM_store (U := X) HOa.out (by omega) h1 (by rw [HvX.out]; exact hgrow) (by rw [HvX.out]; exact hat) HBa.out (by omega)
       obtain ⟨hd1, hd2, hO6, hB6, hg6⟩ := HE
       have HO6 := za.mk hO6
       have HB6 := za.mk hB6
       have HX6 := za.mk ((hg6.block w.heap.size (by have := hgrow.size; omega) (fun e => hgq (by injection e with e; exact e.symm))).trans ((hgrow.block _ (by omega) atq).trans HXa.out))
       have HR6 := za.mk (show RowI _ w3.heap.size _ os from own_other (own_other HRa.out hgrow (Zx HRa.out HRXa.out (by decide))) hg6 (by have h := Zx HRa.out HOa.out.top (by decide); simpa [Value.ownBlock] using h))
       obtain ⟨A1, n1, c1, rfl⟩ := RowM.isSlice h1
       rw [HvX.out] at hd1
       clear hO6 hB6 hg6 hgrow hat h1
       refine hK.out _ _ ⟨HS1.out, ?_⟩
       clear hK K
       try simp only [Act.put, List.setIfInBounds_toArray, List.set_cons_zero, List.set_cons_succ, List.getElem_toArray, List.getElem_cons_zero, List.getElem_cons_succ]
       refine zN (fun _ => True) (i := 15) (v := ?_) rfl (by kernel_rfl) (fun _ _ => trivial) (Or.inl fun _ _ => trivial) (by kernel_rfl) (by kernel_rfl) (by kernel_rfl) (fun _ _ _ h => h) (by kernel_rfl) (by kernel_rfl) (Or.inl ⟨by rfl, ?_⟩) HS1.out ?_
       rotate_left; (focus (intro w hSw; (try dsimp only at hSw); go_simp; try with_reducible rfl))
       try simp only [Act.put, List.setIfInBounds_toArray, List.set_cons_zero, List.set_cons_succ, List.getElem_toArray, List.getElem_cons_zero, List.getElem_cons_succ]
       refine Zo (by kernel_rfl) (by kernel_rfl) ?_
       refine wpOp_step rfl (fun K hK => ?_)
       replace hK := za.mk hK
       go_simp
       refine hK.out _ _ ⟨trivial, ?_⟩
       clear hK K
       try simp only [Act.put, List.setIfInBounds_toArray, List.set_cons_zero, List.set_cons_succ, List.getElem_toArray, List.getElem_cons_zero, List.getElem_cons_succ]
       refine wpAnyH_done (by kernel_rfl) ?_ _
       go_wp2_with fail
       go_roundg (os.length - (i + 1))
       case measure => omega
       case rel => exact ⟨i + 1, vs.set X (.slice A1 n1 c1), by omega, by omega, (by have h := HOSL.out; have e : wrap64 ((i : Int) + 1) = ((i + 1 : Nat) : Int) := (by unfold wrap64; omega); rw [e]), by rw [List.length_set]; exact hvl, ⟨by rw [HTT.out, put1, EK.out, Int.toNat_natCast, HxX.out]; exact HO6.out⟩, HB6, HX6, HR6⟩
      ·have hie : i = os.length := by omega
       have HIE := za.mk hie
       have hib : ¬ (i : Int) < (os.length : Int) := by omega
       have HO7 := za.mk (show OM wr base _ vs vs (told near owner me ks p (j + 1) bs) by rw [HTE.out]; have := HO.out; rw [HIE.out, List.take_length] at this; exact this)
       clear hie
       go_wp2_with fail
       go_roundg (ks.length - (j + 1))
       case measure => omega
       case rel => exact ⟨j + 1, _, by omega, by omega, by go_num, hvl, HO7, HRL2, HB, HX⟩
    | false =>
     rw [hpj] at hcall
     have HPJ := za.mk hpj
     clear hpj
     go_wp2_with fail
     go_region_held3 (fun w' => w'.cell? ⟨w.heap.size, 1, none⟩ = some (.slice (some ado) owner.length co) ∧ w'.cell? ⟨w.heap.size, 4, none⟩ = some (.int .i64 me) ∧ w'.cell? (ado.add j) = some (.int .i64 ov)) (first | go_keep | exact ⟨(hb'.cell (p := ⟨w.heap.size, 1, none⟩) hqs).trans hq1, (hb'.cell (p := ⟨w.heap.size, 4, none⟩) hqs).trans hq4, (hb'.cell (p := ado.add j) hxol).trans hxo⟩) (first | (refine hcall.mono ?_; rintro e w' ⟨rfl, hb'⟩))
     have HBr := za.mk (show Below wr.heap.size wr _ from (zb (Below.refl _ _) 1).trans hb')
     go_wp2_with fail
     go_roundg (ks.length - (j + 1))
     case measure => omega
     case rel => exact ⟨j + 1, vs, by omega, by omega, by go_num, hvl, ⟨by rw [HT.out, tell1, EO.out, HOV.out, HPJ.out]; exact O2.below lawM HO.out HBr.out⟩, HRL2, ⟨HB.out.trans (HBr.out.mono HBS.out)⟩, ⟨(HBr.out.block _ hqs).trans HX.out⟩⟩
   ·have hovb : (ov != me) = true := by simp [hov]
    have HOV := za.mk hovb
    clear hov
    go_wp2_with fail
    go_quiet (fail)
    go_wp2_with fail
    go_roundg (ks.length - (j + 1))
    case measure => omega
    case rel => exact ⟨j + 1, vs, by omega, by omega, by go_num, hvl, ⟨by rw [HT.out, tell1, EO.out, HOV.out]; exact O2.below lawM HO.out (zb (Below.refl _ _) nq)⟩, HRL2, ⟨zb HB.out nq⟩, HX⟩
  ·have hje : j = ks.length := by omega
   have HJE := za.mk hje
   have hjb : ¬ (j : Int) < (near.length : Int) := by have := HNL.out; omega
   have HO3 := za.mk (show OM wr base _ vs vs (told near owner me ks p ks.length bs) by have := HO.out; rw [HJE.out] at this; exact this)
   clear hje HO
   go_wp2_with fail
   go_end0
   exact ⟨rfl, ⟨_, HO3.out⟩, HB.out⟩
end Go.Proofs.Ytebehdjjkpffjaa.QPlans
end
