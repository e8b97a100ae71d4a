/- Lemmas for this claim: words and contracts of the print, cut down by a program to what is used, and our own texts (part 5). -/
import Derived.Deep.RegionLaw
import Derived.Test.YtjndadjhhknggaaY1
import Derived.Test.YtjndadjhhknggaaY2
import Derived.Test.YtjndadjhhknggaaY3
import Derived.Test.YtjndadjhhknggaaY4
section
/- Contracts of a function, printed for this claim by a program of ours over the kit's print. -/
namespace Go.Proofs.Ytjndadjhhknggaa.Q
open Go.RowKit Go.Proofs.YtjndadjhhknggaaW.PrintWords Go.Proofs.YtjndadjhhknggaaW.PrintLast Go.Proofs.YtjndadjhhknggaaW.PrintMore
attribute [local go_sem] max2_int min2_int max_two min_two max_three min_three max_four min_four   -- for this text's walks alone
set_option linter.unusedVariables false
set_option linter.unusedSimpArgs false

/-! ### impl_Sink_own: function 41 -/
def impl_Sink_own.l0 : Nat → List (S68) → List (S68) → Int → Int → List Int → Int → List Int → List (S68) → List Int → Int → Int → Option (List Int × Int × List Int × (List (S68)) × List Int × Int × Int)
 | 0, _, _, _, _, _, _, _, _, _, _, _ => none
 | k + 1, x3, x19, x20, x21, x102000, x102001, x102002, x102003, x102004, x102005, x102006 => if x21 < x20 then (if 0 ≤ x21 then (if x21 < (x19.length : Int) then ((slices_Clone_int_int.f ((rd_T68 x19 x21).f2)).bind fun t114 => (if x3.length < 3518437208883 then (impl_Sink_own.l0 k (x3 ++ [(⟨(rd_T68 x19 x21).f0, (rd_T68 x19 x21).f1, t114⟩ : S68)]) x19 x20 (wrap64 (x21 + 1)) x102000 x102001 x102002 x102003 x102004 x102005 x102006) else (none))) else (none)) else (none)) else (some (x102000, x102001, x102002, x3, x102004, x102005, x102006))
def impl_Sink_own.f (k : Nat) (l0_0 : List Int) (a0_1 : Int) (l0_2 : List Int) (l0_3 : List (S68)) (l0_4 : List Int) (a0_5 : Int) (a0_6 : Int) : Option (List Int × Int × List Int × (List (S68)) × List Int × Int × Int) := (slices_Clone_int_int.f l0_0).bind fun t103 => ((slices_Clone_int_int.f l0_2).bind fun t106 => ((slices_Clone_int_int.f l0_4).bind fun t109 => (impl_Sink_own.l0 k ([] : List (S68)) l0_3 (l0_3.length : Int) 0 t103 a0_1 t106 l0_3 t109 a0_5 a0_6)))
def impl_Sink_own.T1 : Bool × List (List Nat × List Nat) := (true, [([], []), ([0], [0]), ([1], [1]), ([], []), ([3], [3]), ([4, 2], [4]), ([], []), ([6], [6]), ([7, 5], [7]), ([0, 1, 2, 3, 4, 6, 7], []), ([9, 2, 8, 0, 1, 2, 3, 4, 6, 7], [2, 9]), ([0, 1, 2, 3, 4, 5, 6, 7, 9, 10], []), ([11, 5, 10, 0, 1, 2, 3, 4, 5, 6, 7, 9, 10], [5, 11]), ([0, 1, 2, 3, 4, 5, 6, 7, 8, 9, 10, 11, 12], []), ([13, 8, 12, 0, 1, 2, 3, 4, 5, 6, 7, 8, 9, 10, 11, 12], [8, 13])])
def impl_Sink_own.B1 : List Nat := [0, 1, 3, 0, 8, 31, 0, 64, 255, 223, 1023, 2047, 4095, 8191, 16383]
theorem impl_Sink_own.tab1 : rtab .any (opsOf Try.f41 1) = impl_Sink_own.T1 := by kernel_rfl
theorem impl_Sink_own.bits1 : waitsOk impl_Sink_own.T1.2 impl_Sink_own.B1 = true := by kernel_rfl
def impl_Sink_own.T6 : Bool × List (List Nat × List Nat) := (true, [([], []), ([], []), ([1], [1]), ([], []), ([3], [3]), ([], []), ([5], [5]), ([6], [6]), ([2, 4, 7], [2, 4, 7]), ([8], [8]), ([0, 9, 7], [0, 9]), ([10, 10, 0, 1, 2, 3, 4, 5, 6, 7, 8, 9, 10], [0, 10])])
def impl_Sink_own.B6 : List Nat := [0, 0, 2, 0, 8, 0, 32, 96, 254, 510, 1023, 2047]
theorem impl_Sink_own.tab6 : rtab .any (opsOf Try.f41 6) = impl_Sink_own.T6 := by kernel_rfl
theorem impl_Sink_own.bits6 : waitsOk impl_Sink_own.T6.2 impl_Sink_own.B6 = true := by kernel_rfl
set_option maxHeartbeats 8000000 in
set_option maxRecDepth 100000 in
theorem impl_Sink_own.calls (k : Nat) (A0_0 : Option Addr) (c0_0 : Nat) (l0_0 : List Int) (a0_1 : Int) (A0_2 : Option Addr) (c0_2 : Nat) (l0_2 : List Int) (A0_3 : Option Addr) (c0_3 : Nat) (l0_3 : List (S68)) (A0_4 : Option Addr) (c0_4 : Nat) (l0_4 : List Int) (a0_5 : Int) (a0_6 : Int) (r1 : List Int) (r2 : Int) (r3 : List Int) (r4 : List (S68)) (r5 : List Int) (r6 : Int) (r7 : Int) (w : World) (hr0_0 : Kd.C (Kd.int .i64) w A0_0 l0_0.length l0_0) (hc0_0 : l0_0.length ≤ c0_0) (hr0_2 : Kd.C (Kd.int .i64) w A0_2 l0_2.length l0_2) (hc0_2 : l0_2.length ≤ c0_2) (hr0_3 : Kd.C k68 w A0_3 l0_3.length l0_3) (hc0_3 : l0_3.length ≤ c0_3) (hr0_4 : Kd.C (Kd.int .i64) w A0_4 l0_4.length l0_4) (hc0_4 : l0_4.length ≤ c0_4) (h : impl_Sink_own.f k l0_0 a0_1 l0_2 l0_3 l0_4 a0_5 a0_6 = some (r1, r2, r3, r4, r5, r6, r7)) :
  Calls Try.prog 41 #[.agg #[.slice A0_0 l0_0.length c0_0, .int .i64 a0_1, .slice A0_2 l0_2.length c0_2, .slice A0_3 l0_3.length c0_3, .slice A0_4 l0_4.length c0_4, .int .i64 a0_5, .int .i64 a0_6]] w fun e w' => ∃ v0_ v2_ v3_ v4_ : Value, e = .returned (.agg #[v0_, .int .i64 r2, v2_, v3_, v4_, .int .i64 r6, .int .i64 r7]) ∧ Kd.R (Kd.int .i64) 3 w' w.heap.size (fun k_ => some k_ ≠ (v2_ : Value).ownBlock ∧ some k_ ≠ (v4_ : Value).ownBlock) v0_ r1 ∧ Kd.R (Kd.int .i64) 3 w' w.heap.size (fun k_ => some k_ ≠ (v0_ : Value).ownBlock ∧ some k_ ≠ (v4_ : Value).ownBlock) v2_ r3 ∧ Kd.S k68 68 w' w.heap.size (fun k_ => some k_ ≠ (v0_ : Value).ownBlock ∧ some k_ ≠ (v2_ : Value).ownBlock ∧ some k_ ≠ (v4_ : Value).ownBlock) v3_ r4 ∧ Kd.R (Kd.int .i64) 3 w' w.heap.size (fun k_ => some k_ ≠ (v0_ : Value).ownBlock ∧ some k_ ≠ (v2_ : Value).ownBlock) v4_ r5 ∧ Below w.heap.size w w' := by
 have hu28 := Try.underlying28
 have hu68 := Try.underlying68
 have HR0_0 := Aside0.mk hr0_0
 have HC0_0 := Aside0.mk hc0_0
 clear hr0_0 hc0_0
 have HR0_2 := Aside0.mk hr0_2
 have HC0_2 := Aside0.mk hc0_2
 clear hr0_2 hc0_2
 have HR0_3 := Aside0.mk hr0_3
 have HC0_3 := Aside0.mk hc0_3
 clear hr0_3 hc0_3
 have HR0_4 := Aside0.mk hr0_4
 have HC0_4 := Aside0.mk hc0_4
 clear hr0_4 hc0_4
 have HB := Aside0.mk (Below.refl w.heap.size w)
 have H : ((slices_Clone_int_int.f l0_0).bind fun t103 => ((slices_Clone_int_int.f l0_2).bind fun t106 => ((slices_Clone_int_int.f l0_4).bind fun t109 => (impl_Sink_own.l0 k ([] : List (S68)) l0_3 (l0_3.length : Int) 0 t103 a0_1 t106 l0_3 t109 a0_5 a0_6)))) = some (r1, r2, r3, r4, r5, r6, r7) := h
 clear h
 replace H := Option.bind_eq_some_iff.mp H
 obtain ⟨t103, A20, H⟩ := H
 replace H : ((slices_Clone_int_int.f l0_2).bind fun t106 => ((slices_Clone_int_int.f l0_4).bind fun t109 => (impl_Sink_own.l0 k ([] : List (S68)) l0_3 (l0_3.length : Int) 0 t103 a0_1 t106 l0_3 t109 a0_5 a0_6))) = some (r1, r2, r3, r4, r5, r6, r7) := H
 have A2 := Aside0.mk A20
 clear A20
 replace H := Option.bind_eq_some_iff.mp H
 obtain ⟨t106, A30, H⟩ := H
 replace H : ((slices_Clone_int_int.f l0_4).bind fun t109 => (impl_Sink_own.l0 k ([] : List (S68)) l0_3 (l0_3.length : Int) 0 t103 a0_1 t106 l0_3 t109 a0_5 a0_6)) = some (r1, r2, r3, r4, r5, r6, r7) := H
 have A3 := Aside0.mk A30
 clear A30
 replace H := Option.bind_eq_some_iff.mp H
 obtain ⟨t109, A40, H⟩ := H
 replace H : (impl_Sink_own.l0 k ([] : List (S68)) l0_3 (l0_3.length : Int) 0 t103 a0_1 t106 l0_3 t109 a0_5 a0_6) = some (r1, r2, r3, r4, r5, r6, r7) := H
 have A4 := Aside0.mk A40
 clear A40
 have H' := Aside0.mk H
 clear H
 go_enter Try.func41, Try.ntmps41
 try go_wp2_with (first | ((with_reducible refine gate_dst (N := 1) rfl ?_); refine box_event ?hg (N := 1) ?hd (cs := #[.slice A0_0 l0_0.length c0_0, .int .i64 a0_1, .slice A0_2 l0_2.length c0_2, .slice A0_3 l0_3.length c0_3, .slice A0_4 l0_4.length c0_4, .int .i64 a0_5, .int .i64 a0_6]) (t := 28) ?hr ?_; (case hd => rfl); (case hg => rfl); (case hr => first | (go_simp; done) | (go_simp; rfl)); intro gb101 hg w5 hbox hb; have n0_ := Aside0.mk (below_step (by repeat (first | (with_reducible first | exact HB.out | apply below_alloc | apply pw_below_drewN | apply below_drew1) | exact HB.out)) hb); have n1_ := Aside0.mk (hbox); have n2_ := Aside0.mk ((by rw [hg]; exact (below_size (by repeat (first | (with_reducible first | exact HB.out | apply below_alloc | apply pw_below_drewN | apply below_drew1) | exact HB.out))) : w.heap.size ≤ gb101)); have n3_ := Aside0.mk ((by rw [hg]; exact (below_size (by repeat (first | (with_reducible first | exact HB.out | apply below_alloc | apply pw_below_drewN | apply below_drew1) | exact HB.out))) : w.heap.size ≤ gb101)); clear HB; have HB := n0_; have BK101 := n1_; have GW101 := n2_; have GE101 := n3_; clear n0_ n1_ n2_ n3_; clear hb hbox hg) | ((with_reducible refine gate_dst (N := 2) rfl ?_); refine box_event ?hg (N := 2) ?hd (cs := #[.slice none 0 0, .int .i64 0, .slice none 0 0, .slice none 0 0, .slice none 0 0, .int .i64 0, .int .i64 0]) (t := 28) ?hr ?_; (case hd => rfl); (case hg => rfl); (case hr => first | (go_simp; done) | (go_simp; rfl)); intro gb102 hg w6 hbox hb; have n0_ := Aside0.mk (blk_below (g := gb101) (o := .cells #[.slice A0_0 l0_0.length c0_0, .int .i64 a0_1, .slice A0_2 l0_2.length c0_2, .slice A0_3 l0_3.length c0_3, .slice A0_4 l0_4.length c0_4, .int .i64 a0_5, .int .i64 a0_6] 28 (0, 0)) (by (with_reducible repeat (first | refine blk_drewN ?_ _ | refine blk_drew ?_ | refine blk_alloc ?_ _)); exact BK101.out) hb); have n1_ := Aside0.mk (below_step (by repeat (first | (with_reducible first | exact HB.out | apply below_alloc | apply pw_below_drewN | apply below_drew1 | refine below_set ?_ GE101.out) | exact HB.out)) hb); have n2_ := Aside0.mk (hbox); have n3_ := Aside0.mk ((by rw [hg]; exact (below_size (by repeat (first | (with_reducible first | exact HB.out | apply below_alloc | apply pw_below_drewN | apply below_drew1 | refine below_set ?_ GE101.out) | exact HB.out))) : w.heap.size ≤ gb102)); have n4_ := Aside0.mk ((by rw [hg]; exact (below_size (by repeat (first | (with_reducible first | exact HB.out | apply below_alloc | apply pw_below_drewN | apply below_drew1 | refine below_set ?_ GE101.out) | exact HB.out))) : w.heap.size ≤ gb102)); have n5_ := Aside0.mk ((by rw [hg]; exact Nat.ne_of_lt (blk_lt (g := gb101) (o := .cells #[.slice A0_0 l0_0.length c0_0, .int .i64 a0_1, .slice A0_2 l0_2.length c0_2, .slice A0_3 l0_3.length c0_3, .slice A0_4 l0_4.length c0_4, .int .i64 a0_5, .int .i64 a0_6] 28 (0, 0)) (by (with_reducible repeat (first | refine blk_drewN ?_ _ | refine blk_drew ?_ | refine blk_alloc ?_ _)); exact BK101.out)) : gb101 ≠ gb102)); have n6_ := Aside0.mk ((by rw [hg]; exact Nat.ne_of_gt (blk_lt (g := gb101) (o := .cells #[.slice A0_0 l0_0.length c0_0, .int .i64 a0_1, .slice A0_2 l0_2.length c0_2, .slice A0_3 l0_3.length c0_3, .slice A0_4 l0_4.length c0_4, .int .i64 a0_5, .int .i64 a0_6] 28 (0, 0)) (by (with_reducible repeat (first | refine blk_drewN ?_ _ | refine blk_drew ?_ | refine blk_alloc ?_ _)); exact BK101.out)) : gb102 ≠ gb101)); clear BK101; clear HB; have BK101 := n0_; have HB := n1_; have BK102 := n2_; have GW102 := n3_; have GE102 := n4_; have NB101_102 := n5_; have NB102_101 := n6_; clear n0_ n1_ n2_ n3_ n4_ n5_ n6_; clear hb hbox hg))
 have n0_ := Aside0.mk (blk_drew BK101.out)
 have n1_ := Aside0.mk (blk_drew BK102.out)
 have n2_ := Aside0.mk (below_drew1 HB.out)
 clear BK101
 clear BK102
 clear HB
 have BK101 := n0_
 have BK102 := n1_
 have HB := n2_
 clear n0_ n1_ n2_
 refine start_ (n := 15) (S := fun w' => w'.cell? ⟨gb101, 0, none⟩ = some (.slice A0_0 l0_0.length c0_0) ∧ w'.cell? ⟨gb101, 1, none⟩ = some (.int .i64 a0_1) ∧ w'.cell? ⟨gb101, 2, none⟩ = some (.slice A0_2 l0_2.length c0_2) ∧ w'.cell? ⟨gb101, 3, none⟩ = some (.slice A0_3 l0_3.length c0_3) ∧ w'.cell? ⟨gb101, 4, none⟩ = some (.slice A0_4 l0_4.length c0_4) ∧ w'.cell? ⟨gb101, 5, none⟩ = some (.int .i64 a0_5) ∧ w'.cell? ⟨gb101, 6, none⟩ = some (.int .i64 a0_6)) (ds := [10, 12, 14]) (lA 15 0) (by kernel_rfl) rfl rfl ⟨(blk_cell BK101.out 0).trans rfl, (blk_cell BK101.out 1).trans rfl, (blk_cell BK101.out 2).trans rfl, (blk_cell BK101.out 3).trans rfl, (blk_cell BK101.out 4).trans rfl, (blk_cell BK101.out 5).trans rfl, (blk_cell BK101.out 6).trans rfl⟩ (fun hHeld => ?_); refine with_tabW impl_Sink_own.tab1 impl_Sink_own.bits1 (fun HT_ HW_ => ?_)
 generalize w6.drew = w7 at BK101 BK102 HB hHeld ⊢
 refine pure_ (i := 0) (N := some 6) (v := ?_) (a' := ?_) (lA 15 1) rfl rfl (any_of HT_.out (by kernel_rfl)) (fun _ _ _ h => h) (Or.inl ⟨by rfl, ?_⟩) ?_ ?_
 rotate_left
 ·intro w'
  go_simp
  with_reducible rfl
 rotate_left
 ·simp only [Act.put, sT, s0, s1, i64_w, i32_w]
  rfl
 refine pure_ (i := 3) (N := some 9) (v := ?_) (a' := ?_) (lA 15 9) rfl rfl (any_of HT_.out (by kernel_rfl)) (fun _ _ _ h => h) (Or.inl ⟨by rfl, ?_⟩) ?_ ?_
 rotate_left
 ·intro w'
  go_simp
  with_reducible rfl
 rotate_left
 ·simp only [Act.put, sT, s0, s1, i64_w, i32_w]
  rfl
 refine pure_ (i := 6) (N := some 12) (v := ?_) (a' := ?_) (lA 15 73) rfl rfl (any_of HT_.out (by kernel_rfl)) (fun _ _ _ h => h) (Or.inl ⟨by rfl, ?_⟩) ?_ ?_
 rotate_left
 ·intro w'
  go_simp
  with_reducible rfl
 rotate_left
 ·simp only [Act.put, sT, s0, s1, i64_w, i32_w]
  rfl
 refine take_ (i := 1) (N := some 7) (v := ?_) (a' := ?_) (lA 15 75) rfl rfl (take_ofW HT_.out HW_.out (by kernel_rfl)) (fun _ _ _ h => h) (Or.inl ⟨by rfl, ?_⟩) hHeld ?_ ?_
 rotate_left
 ·rintro w' ⟨s0, s1, s2, s3, s4, s5, s6⟩
  go_simp
  with_reducible rfl
 rotate_left
 ·simp only [Act.put, sT, s0, s1, i64_w, i32_w]
  rfl
 refine take_ (i := 4) (N := some 10) (v := ?_) (a' := ?_) (lA 15 91) rfl rfl (take_ofW HT_.out HW_.out (by kernel_rfl)) (fun _ _ _ h => h) (Or.inl ⟨by rfl, ?_⟩) hHeld ?_ ?_
 rotate_left
 ·rintro w' ⟨s0, s1, s2, s3, s4, s5, s6⟩
  go_simp
  with_reducible rfl
 rotate_left
 ·simp only [Act.put, sT, s0, s1, i64_w, i32_w]
  rfl
 refine take_ (i := 7) (N := some 13) (v := ?_) (a' := ?_) (lA 15 219) rfl rfl (take_ofW HT_.out HW_.out (by kernel_rfl)) (fun _ _ _ h => h) (Or.inl ⟨by rfl, ?_⟩) hHeld ?_ ?_
 rotate_left
 ·rintro w' ⟨s0, s1, s2, s3, s4, s5, s6⟩
  go_simp
  with_reducible rfl
 rotate_left
 ·simp only [Act.put, sT, s0, s1, i64_w, i32_w]
  rfl
 refine one_ (i := 2) (N := some 8) (lA 15 223) rfl rfl (one_of HT_.out (by kernel_rfl)) (by decide) (fun K hK => ?_)
 refine goes_ Try.func45 (by kernel_rfl) rfl #[.slice A0_0 l0_0.length c0_0] (by rfl) rfl rfl (by (try simp only [List.map_toArray, List.map_cons, List.map_nil]); first | done | rfl | (simp only [List.length_drop, List.length_take]; rfl)) ?_
 with_reducible refine (slices_Clone_int_int.calls _ _ l0_0 t103 _ ?side1 ?side2 A2.out).mono ?_
 (case side1 => repeat (first | exact (Kd.C_below HR0_0.out HB.out) | (with_reducible refine Kd.C_alloc ?_ _) | (with_reducible refine Kd.C_drewN ?_ _) | (with_reducible refine Kd.C_drew ?_)))
 (case side2 => exact HC0_0.out)
 rintro e w8 ⟨v104, rfl, ho0, hb⟩
 refine ⟨_, rfl, ?_⟩
 have n0_ := Aside0.mk (Kd.R_lower ho0 (below_size (by repeat (first | (with_reducible first | exact HB.out | apply below_alloc | apply pw_below_drewN | apply below_drew1 | refine below_set ?_ GE101.out | refine below_set ?_ GE102.out) | exact HB.out))))
 have n1_ := Aside0.mk (blk_below (g := gb101) (o := .cells #[.slice A0_0 l0_0.length c0_0, .int .i64 a0_1, .slice A0_2 l0_2.length c0_2, .slice A0_3 l0_3.length c0_3, .slice A0_4 l0_4.length c0_4, .int .i64 a0_5, .int .i64 a0_6] 28 (0, 0)) (by (with_reducible repeat (first | refine blk_drewN ?_ _ | refine blk_drew ?_ | refine blk_alloc ?_ _)); exact BK101.out) hb)
 have n2_ := Aside0.mk (blk_below (g := gb102) (o := .cells #[.slice none 0 0, .int .i64 0, .slice none 0 0, .slice none 0 0, .slice none 0 0, .int .i64 0, .int .i64 0] 28 (0, 0)) (by (with_reducible repeat (first | refine blk_drewN ?_ _ | refine blk_drew ?_ | refine blk_alloc ?_ _)); exact BK102.out) hb)
 have n3_ := Aside0.mk (below_step (by repeat (first | (with_reducible first | exact HB.out | apply below_alloc | apply pw_below_drewN | apply below_drew1 | refine below_set ?_ GE101.out | refine below_set ?_ GE102.out) | exact HB.out)) hb)
 clear BK101
 clear BK102
 clear HB
 have HO105 := n0_
 have BK101 := n1_
 have BK102 := n2_
 have HB := n3_
 clear n0_ n1_ n2_ n3_
 (try clear hb)
 (try clear hb2)
 (try clear hk)
 (try clear hi)
 (try clear ho0)
 refine hK.out _ _ ⟨(blk_cell BK101.out 0).trans rfl, (blk_cell BK101.out 1).trans rfl, (blk_cell BK101.out 2).trans rfl, (blk_cell BK101.out 3).trans rfl, (blk_cell BK101.out 4).trans rfl, (blk_cell BK101.out 5).trans rfl, (blk_cell BK101.out 6).trans rfl⟩ (fun hHeld => ?_)
 clear hK K
 refine norm_ (a' := ?_) ?_ ?_
 rotate_left
 ·show Act.put _ (some 8) _ = _
  simp only [Act.put, sT, s0, s1, i64_w, i32_w]
  rfl
 refine pure_ (i := 9) (N := some 15) (v := ?_) (a' := ?_) (lA 15 735) rfl rfl (any_of HT_.out (by kernel_rfl)) (fun _ _ _ h => h) (Or.inl ⟨by rfl, ?_⟩) ?_ ?_
 rotate_left
 ·intro w'
  go_simp
  with_reducible rfl
 rotate_left
 ·simp only [Act.put, sT, s0, s1, i64_w, i32_w]
  rfl
 refine one_ (i := 5) (N := some 11) (lA 15 767) rfl rfl (one_of HT_.out (by kernel_rfl)) (by decide) (fun K hK => ?_)
 refine goes_ Try.func45 (by kernel_rfl) rfl #[.slice A0_2 l0_2.length c0_2] (by rfl) rfl rfl (by (try simp only [List.map_toArray, List.map_cons, List.map_nil]); first | done | rfl | (simp only [List.length_drop, List.length_take]; rfl)) ?_
 with_reducible refine (slices_Clone_int_int.calls _ _ l0_2 t106 _ ?side1 ?side2 A3.out).mono ?_
 (case side1 => repeat (first | exact (Kd.C_below HR0_2.out HB.out) | (with_reducible refine Kd.C_alloc ?_ _) | (with_reducible refine Kd.C_drewN ?_ _) | (with_reducible refine Kd.C_drew ?_)))
 (case side2 => exact HC0_2.out)
 rintro e w9 ⟨v107, rfl, ho0, hb⟩
 refine ⟨_, rfl, ?_⟩
 have n0_ := Aside0.mk (Kd.R_elder' (by (with_reducible repeat (first | apply Kd.R_alloc | apply Kd.R_drewN | apply Kd.R_drew)); exact HO105.out) (Kd.R_base ho0) hb)
 have n1_ := Aside0.mk (Kd.R_lower (Kd.R_new' ho0 (Kd.R_lt (by (with_reducible repeat (first | apply Kd.R_alloc | apply Kd.R_drewN | apply Kd.R_drew)); exact HO105.out))) (below_size (by repeat (first | (with_reducible first | exact HB.out | apply below_alloc | apply pw_below_drewN | apply below_drew1 | refine below_set ?_ GE101.out | refine below_set ?_ GE102.out) | exact HB.out))))
 have n2_ := Aside0.mk (blk_below (g := gb101) (o := .cells #[.slice A0_0 l0_0.length c0_0, .int .i64 a0_1, .slice A0_2 l0_2.length c0_2, .slice A0_3 l0_3.length c0_3, .slice A0_4 l0_4.length c0_4, .int .i64 a0_5, .int .i64 a0_6] 28 (0, 0)) (by (with_reducible repeat (first | refine blk_drewN ?_ _ | refine blk_drew ?_ | refine blk_alloc ?_ _)); exact BK101.out) hb)
 have n3_ := Aside0.mk (blk_below (g := gb102) (o := .cells #[.slice none 0 0, .int .i64 0, .slice none 0 0, .slice none 0 0, .slice none 0 0, .int .i64 0, .int .i64 0] 28 (0, 0)) (by (with_reducible repeat (first | refine blk_drewN ?_ _ | refine blk_drew ?_ | refine blk_alloc ?_ _)); exact BK102.out) hb)
 have n4_ := Aside0.mk (below_step (by repeat (first | (with_reducible first | exact HB.out | apply below_alloc | apply pw_below_drewN | apply below_drew1 | refine below_set ?_ GE101.out | refine below_set ?_ GE102.out) | exact HB.out)) hb)
 clear HO105
 clear BK101
 clear BK102
 clear HB
 have HO105 := n0_
 have HO108 := n1_
 have BK101 := n2_
 have BK102 := n3_
 have HB := n4_
 clear n0_ n1_ n2_ n3_ n4_
 (try clear hb)
 (try clear hb2)
 (try clear hk)
 (try clear hi)
 (try clear ho0)
 refine hK.out _ _ ⟨(blk_cell BK101.out 0).trans rfl, (blk_cell BK101.out 1).trans rfl, (blk_cell BK101.out 2).trans rfl, (blk_cell BK101.out 3).trans rfl, (blk_cell BK101.out 4).trans rfl, (blk_cell BK101.out 5).trans rfl, (blk_cell BK101.out 6).trans rfl⟩ (fun hHeld => ?_)
 clear hK K
 refine norm_ (a' := ?_) ?_ ?_
 rotate_left
 ·show Act.put _ (some 11) _ = _
  simp only [Act.put, sT, s0, s1, i64_w, i32_w]
  rfl
 refine one_ (i := 8) (N := some 14) (lA 15 1023) rfl rfl (one_of HT_.out (by kernel_rfl)) (by decide) (fun K hK => ?_)
 refine goes_ Try.func45 (by kernel_rfl) rfl #[.slice A0_4 l0_4.length c0_4] (by rfl) rfl rfl (by (try simp only [List.map_toArray, List.map_cons, List.map_nil]); first | done | rfl | (simp only [List.length_drop, List.length_take]; rfl)) ?_
 with_reducible refine (slices_Clone_int_int.calls _ _ l0_4 t109 _ ?side1 ?side2 A4.out).mono ?_
 (case side1 => repeat (first | exact (Kd.C_below HR0_4.out HB.out) | (with_reducible refine Kd.C_alloc ?_ _) | (with_reducible refine Kd.C_drewN ?_ _) | (with_reducible refine Kd.C_drew ?_)))
 (case side2 => exact HC0_4.out)
 rintro e w10 ⟨v110, rfl, ho0, hb⟩
 refine ⟨_, rfl, ?_⟩
 have n0_ := Aside0.mk (Kd.R_elder' (by (with_reducible repeat (first | apply Kd.R_alloc | apply Kd.R_drewN | apply Kd.R_drew)); exact HO105.out) (Kd.R_base ho0) hb)
 have n1_ := Aside0.mk (Kd.R_elder' (by (with_reducible repeat (first | apply Kd.R_alloc | apply Kd.R_drewN | apply Kd.R_drew)); exact HO108.out) (Kd.R_base ho0) hb)
 have n2_ := Aside0.mk (Kd.R_lower (Kd.R_new' (Kd.R_new' ho0 (Kd.R_lt (by (with_reducible repeat (first | apply Kd.R_alloc | apply Kd.R_drewN | apply Kd.R_drew)); exact HO105.out))) (Kd.R_lt (by (with_reducible repeat (first | apply Kd.R_alloc | apply Kd.R_drewN | apply Kd.R_drew)); exact HO108.out))) (below_size (by repeat (first | (with_reducible first | exact HB.out | apply below_alloc | apply pw_below_drewN | apply below_drew1 | refine below_set ?_ GE101.out | refine below_set ?_ GE102.out) | exact HB.out))))
 have n3_ := Aside0.mk (blk_below (g := gb101) (o := .cells #[.slice A0_0 l0_0.length c0_0, .int .i64 a0_1, .slice A0_2 l0_2.length c0_2, .slice A0_3 l0_3.length c0_3, .slice A0_4 l0_4.length c0_4, .int .i64 a0_5, .int .i64 a0_6] 28 (0, 0)) (by (with_reducible repeat (first | refine blk_drewN ?_ _ | refine blk_drew ?_ | refine blk_alloc ?_ _)); exact BK101.out) hb)
 have n4_ := Aside0.mk (blk_below (g := gb102) (o := .cells #[.slice none 0 0, .int .i64 0, .slice none 0 0, .slice none 0 0, .slice none 0 0, .int .i64 0, .int .i64 0] 28 (0, 0)) (by (with_reducible repeat (first | refine blk_drewN ?_ _ | refine blk_drew ?_ | refine blk_alloc ?_ _)); exact BK102.out) hb)
 have n5_ := Aside0.mk (below_step (by repeat (first | (with_reducible first | exact HB.out | apply below_alloc | apply pw_below_drewN | apply below_drew1 | refine below_set ?_ GE101.out | refine below_set ?_ GE102.out) | exact HB.out)) hb)
 clear HO105
 clear HO108
 clear BK101
 clear BK102
 clear HB
 have HO105 := n0_
 have HO108 := n1_
 have HO111 := n2_
 have BK101 := n3_
 have BK102 := n4_
 have HB := n5_
 clear n0_ n1_ n2_ n3_ n4_ n5_
 (try clear hb)
 (try clear hb2)
 (try clear hk)
 (try clear hi)
 (try clear ho0)
 obtain ⟨Ao11, co11, eo11⟩ := Kd.R_slice HO105.out
 (first | subst eo11 | (injection eo11 with f1_ f2_ f3_; have f4_ := f1_.symm; have f5_ := f3_.symm; clear f1_ f2_ f3_; subst f4_; subst f5_))
 obtain ⟨Ao13, co13, eo13⟩ := Kd.R_slice HO108.out
 (first | subst eo13 | (injection eo13 with f1_ f2_ f3_; have f4_ := f1_.symm; have f5_ := f3_.symm; clear f1_ f2_ f3_; subst f4_; subst f5_))
 obtain ⟨Ao15, co15, eo15⟩ := Kd.R_slice HO111.out
 (first | subst eo15 | (injection eo15 with f1_ f2_ f3_; have f4_ := f1_.symm; have f5_ := f3_.symm; clear f1_ f2_ f3_; subst f4_; subst f5_))
 refine hK.out _ _ ⟨(blk_cell BK101.out 0).trans rfl, (blk_cell BK101.out 1).trans rfl, (blk_cell BK101.out 2).trans rfl, (blk_cell BK101.out 3).trans rfl, (blk_cell BK101.out 4).trans rfl, (blk_cell BK101.out 5).trans rfl, (blk_cell BK101.out 6).trans rfl⟩ (fun hHeld => ?_)
 clear hK K
 refine norm_ (a' := ?_) ?_ ?_
 rotate_left
 ·show Act.put _ (some 14) _ = _
  simp only [Act.put, sT, s0, s1, i64_w, i32_w]
  rfl
 refine last_ (i := 10) (N := none) (lA 15 2047) rfl rfl (one_of HT_.out (by kernel_rfl)) (by decide) (fun K hK => ?_)
 have hs12 : w10.cell? ⟨gb101, 0, none⟩ = some (.slice A0_0 l0_0.length c0_0) := (blk_cell BK101.out 0).trans rfl
 have hfs12 := blk_frozen BK101.out 0
 have hns12_1 := NB102_101.out
 have hms12_1 := NB101_102.out
 refine skip_ (w1 := ?_) (by rfl) rfl ?_ ?_
 rotate_left
 ·go_simp
  rfl
 refine hK.out _ _ ?_
 clear hK K
 refine pure_ (i := 11) (N := some 16) (v := ?_) (a' := ?_) (lA 15 4095) rfl rfl (any_of HT_.out (by kernel_rfl)) (fun _ _ _ h => h) (Or.inl ⟨by rfl, ?_⟩) ?_ ?_
 rotate_left
 ·intro w'
  go_simp
  with_reducible rfl
 rotate_left
 ·simp only [Act.put, sT, s0, s1, i64_w, i32_w]
  rfl
 refine last_ (i := 12) (N := none) (lA 15 8191) rfl rfl (one_of HT_.out (by kernel_rfl)) (by decide) (fun K hK => ?_)
 have hs14 : w10.cell? ⟨gb101, 2, none⟩ = some (.slice A0_2 l0_2.length c0_2) := (blk_cell BK101.out 2).trans rfl
 have hfs14 := blk_frozen BK101.out 2
 have hns14_1 := NB102_101.out
 have hms14_1 := NB101_102.out
 refine skip_ (w1 := ?_) (by rfl) rfl ?_ ?_
 rotate_left
 ·go_simp
  rfl
 refine hK.out _ _ ?_
 clear hK K
 refine pure_ (i := 13) (N := some 17) (v := ?_) (a' := ?_) (lA 15 16383) rfl rfl (any_of HT_.out (by kernel_rfl)) (fun _ _ _ h => h) (Or.inl ⟨by rfl, ?_⟩) ?_ ?_
 rotate_left
 ·intro w'
  go_simp
  with_reducible rfl
 rotate_left
 ·simp only [Act.put, sT, s0, s1, i64_w, i32_w]
  rfl
 refine last_ (i := 14) (N := none) (lA 15 32767) rfl rfl (one_of HT_.out (by kernel_rfl)) (by decide) (fun K hK => ?_)
 have hs16 : w10.cell? ⟨gb101, 4, none⟩ = some (.slice A0_4 l0_4.length c0_4) := (blk_cell BK101.out 4).trans rfl
 have hfs16 := blk_frozen BK101.out 4
 have hns16_1 := NB102_101.out
 have hms16_1 := NB101_102.out
 refine skip_ (w1 := ?_) (by rfl) rfl ?_ ?_
 rotate_left
 ·go_simp
  rfl
 refine hK.out _ _ ?_
 clear hK K
 refine done_ (done_of HT_.out (by kernel_rfl)) ?_
 have hnb17 := NB101_102.out
 have hnc17 := NB102_101.out
 have hcz18_0 : w10.cell? ⟨gb101, 0, none⟩ = some (.slice A0_0 l0_0.length c0_0) := (blk_cell BK101.out 0).trans rfl
 have hcz18_1 : w10.cell? ⟨gb101, 1, none⟩ = some (.int .i64 a0_1) := (blk_cell BK101.out 1).trans rfl
 have hcz18_2 : w10.cell? ⟨gb101, 2, none⟩ = some (.slice A0_2 l0_2.length c0_2) := (blk_cell BK101.out 2).trans rfl
 have hcz18_3 : w10.cell? ⟨gb101, 3, none⟩ = some (.slice A0_3 l0_3.length c0_3) := (blk_cell BK101.out 3).trans rfl
 have hcz18_4 : w10.cell? ⟨gb101, 4, none⟩ = some (.slice A0_4 l0_4.length c0_4) := (blk_cell BK101.out 4).trans rfl
 have hcz18_5 : w10.cell? ⟨gb101, 5, none⟩ = some (.int .i64 a0_5) := (blk_cell BK101.out 5).trans rfl
 have hcz18_6 : w10.cell? ⟨gb101, 6, none⟩ = some (.int .i64 a0_6) := (blk_cell BK101.out 6).trans rfl
 have hfz18_0 := blk_frozen BK101.out 0
 have hfz18_1 := blk_frozen BK101.out 1
 have hfz18_2 := blk_frozen BK101.out 2
 have hfz18_3 := blk_frozen BK101.out 3
 have hfz18_4 := blk_frozen BK101.out 4
 have hfz18_5 := blk_frozen BK101.out 5
 have hfz18_6 := blk_frozen BK101.out 6
 try go_wp2
 go_loopg [3, 21] k (fun kq v3 v21 w' => ∃ (x3_1 : List (S68)) (x21_1 : Int), v21 = .int .i64 x21_1 ∧ Aside0 (impl_Sink_own.l0 kq x3_1 l0_3 (l0_3.length : Int) x21_1 t103 a0_1 t106 l0_3 t109 a0_5 a0_6 = some (r1, r2, r3, r4, r5, r6, r7)) ∧ Aside0 (kq ≤ k) ∧ Aside0 (Kd.S k68 68 w' w.heap.size (fun k_ => some k_ ≠ ((.slice Ao11 t103.length co11) : Value).ownBlock ∧ some k_ ≠ ((.slice Ao13 t106.length co13) : Value).ownBlock ∧ some k_ ≠ ((.slice Ao15 t109.length co15) : Value).ownBlock) v3 x3_1) ∧ Aside0 (Kd.R (Kd.int .i64) 3 w' w.heap.size (fun k_ => some k_ ≠ ((.slice Ao13 t106.length co13) : Value).ownBlock ∧ some k_ ≠ ((.slice Ao15 t109.length co15) : Value).ownBlock) (.slice Ao11 t103.length co11) t103) ∧ Aside0 (Kd.R (Kd.int .i64) 3 w' w.heap.size (fun k_ => some k_ ≠ ((.slice Ao11 t103.length co11) : Value).ownBlock ∧ some k_ ≠ ((.slice Ao15 t109.length co15) : Value).ownBlock) (.slice Ao13 t106.length co13) t106) ∧ Aside0 (Kd.R (Kd.int .i64) 3 w' w.heap.size (fun k_ => some k_ ≠ ((.slice Ao11 t103.length co11) : Value).ownBlock ∧ some k_ ≠ ((.slice Ao13 t106.length co13) : Value).ownBlock) (.slice Ao15 t109.length co15) t109) ∧ Aside0 (w'.heap[gb101]? = some (.cells #[(.slice Ao11 t103.length co11), .int .i64 a0_1, (.slice Ao13 t106.length co13), (.slice A0_3 l0_3.length c0_3), (.slice Ao15 t109.length co15), .int .i64 a0_5, .int .i64 a0_6] 28 (0, 0))) ∧ Aside0 (w'.heap[gb102]? = some (.cells #[(.slice none 0 0), .int .i64 0, (.slice none 0 0), (.slice none 0 0), (.slice none 0 0), .int .i64 0, .int .i64 0] 28 (0, 0))) ∧ Aside0 (Below w.heap.size w w'))
 case atStart => exact ⟨(([] : List (S68))), (0), (by first | rfl | (simp; done) | (simp [*]; done)), H', ⟨Nat.le_refl _⟩, ⟨by first | exact Kd.S_nil _ _ _ _ _ | exact Kd.N_nil _ _ _ _ _ | exact Kd.V_nil _ _ _ _ _ | exact Kd.Q_nil _ _ _ _ _ | exact Kd.R_nil _ _ _ _ _⟩, ⟨by (with_reducible repeat (first | apply Kd.R_alloc | apply Kd.R_drewN | apply Kd.R_drew)); exact Kd.R_mono (Kd.R_far (p := ⟨gb101, 4, none⟩) (Kd.R_far (p := ⟨gb101, 2, none⟩) (Kd.R_far (p := ⟨gb101, 0, none⟩) (Kd.R_types HO105.out BK101.out (by decide)) (fun _ hk => hk.2) (.slice Ao11 t103.length co11)) (fun _ hk => hk.2) (.slice Ao13 t106.length co13)) (fun _ hk => hk.2) (.slice Ao15 t109.length co15)) (fun _ hk => ⟨hk.1.1.2, hk.1.2⟩)⟩, ⟨by (with_reducible repeat (first | apply Kd.R_alloc | apply Kd.R_drewN | apply Kd.R_drew)); exact Kd.R_mono (Kd.R_far (p := ⟨gb101, 4, none⟩) (Kd.R_far (p := ⟨gb101, 2, none⟩) (Kd.R_far (p := ⟨gb101, 0, none⟩) (Kd.R_types HO108.out BK101.out (by decide)) (fun _ hk => hk.2) (.slice Ao11 t103.length co11)) (fun _ hk => hk.2) (.slice Ao13 t106.length co13)) (fun _ hk => hk.2) (.slice Ao15 t109.length co15)) (fun _ hk => ⟨hk.1.1.2, hk.1.2⟩)⟩, ⟨by (with_reducible repeat (first | apply Kd.R_alloc | apply Kd.R_drewN | apply Kd.R_drew)); exact Kd.R_mono (Kd.R_far (p := ⟨gb101, 4, none⟩) (Kd.R_far (p := ⟨gb101, 2, none⟩) (Kd.R_far (p := ⟨gb101, 0, none⟩) (Kd.R_types HO111.out BK101.out (by decide)) (fun _ hk => hk.2) (.slice Ao11 t103.length co11)) (fun _ hk => hk.2) (.slice Ao13 t106.length co13)) (fun _ hk => hk.2) (.slice Ao15 t109.length co15)) (fun _ hk => ⟨hk.1.1.2, hk.1.2⟩)⟩, ⟨by (with_reducible repeat (first | refine blk_drewN ?_ _ | refine blk_drew ?_ | refine blk_alloc ?_ _)); refine blk_put (cs := #[.slice Ao11 t103.length co11, .int .i64 a0_1, .slice Ao13 t106.length co13, .slice A0_3 l0_3.length c0_3, .slice A0_4 l0_4.length c0_4, .int .i64 a0_5, .int .i64 a0_6]) ?_ 4 _ rfl; (with_reducible repeat (first | refine blk_drewN ?_ _ | refine blk_drew ?_ | refine blk_alloc ?_ _)); refine blk_put (cs := #[.slice Ao11 t103.length co11, .int .i64 a0_1, .slice A0_2 l0_2.length c0_2, .slice A0_3 l0_3.length c0_3, .slice A0_4 l0_4.length c0_4, .int .i64 a0_5, .int .i64 a0_6]) ?_ 2 _ rfl; (with_reducible repeat (first | refine blk_drewN ?_ _ | refine blk_drew ?_ | refine blk_alloc ?_ _)); refine blk_put (cs := #[.slice A0_0 l0_0.length c0_0, .int .i64 a0_1, .slice A0_2 l0_2.length c0_2, .slice A0_3 l0_3.length c0_3, .slice A0_4 l0_4.length c0_4, .int .i64 a0_5, .int .i64 a0_6]) ?_ 0 _ rfl; (with_reducible repeat (first | refine blk_drewN ?_ _ | refine blk_drew ?_ | refine blk_alloc ?_ _)); exact BK101.out⟩, ⟨by (with_reducible repeat (first | refine blk_drewN ?_ _ | refine blk_drew ?_ | refine blk_alloc ?_ _)); refine blk_far ?_ NB102_101.out _; (with_reducible repeat (first | refine blk_drewN ?_ _ | refine blk_drew ?_ | refine blk_alloc ?_ _)); refine blk_far ?_ NB102_101.out _; (with_reducible repeat (first | refine blk_drewN ?_ _ | refine blk_drew ?_ | refine blk_alloc ?_ _)); refine blk_far ?_ NB102_101.out _; (with_reducible repeat (first | refine blk_drewN ?_ _ | refine blk_drew ?_ | refine blk_alloc ?_ _)); exact BK102.out⟩, ⟨by repeat (first | (with_reducible first | exact HB.out | apply below_alloc | apply pw_below_drewN | apply below_drew1 | refine below_set ?_ GE101.out | refine below_set ?_ GE102.out) | exact HB.out)⟩⟩
 case round =>
  clear H'
  try clear c1
  try clear p2
  try clear c4
  try clear c17
  try clear hcz18_0
  try clear hcz18_1
  try clear hcz18_2
  try clear hcz18_3
  try clear hcz18_4
  try clear hcz18_5
  try clear hcz18_6
  try clear hfz18_0
  try clear hfz18_1
  try clear hfz18_2
  try clear hfz18_3
  try clear hfz18_4
  try clear hfz18_5
  try clear hfz18_6
  obtain ⟨x3_1, x21_1, rfl, HA, HK1, HO_3, HO_102000, HO_102002, HO_102004, BK101, BK102, HB⟩ := hrel
  cases gk with
  | zero => exact absurd HA.out (by simp [impl_Sink_own.l0])
  | succ k1 =>
   have H := HA.out
   clear HA
   simp only [impl_Sink_own.l0] at H
   by_cases c19 : x21_1 < (l0_3.length : Int)
   ·rw [if_pos c19] at H
    have c19b0 : decide (x21_1 < (l0_3.length : Int)) = true := decide_eq_true c19
    clear c19
    by_cases c20 : 0 ≤ x21_1
    ·rw [if_pos c20] at H
     have c20b0 : decide (0 ≤ x21_1) = true := decide_eq_true c20
     clear c20
     by_cases c21 : x21_1 < (l0_3.length : Int)
     ·rw [if_pos c21] at H
      have c21b0 : decide (x21_1 < (l0_3.length : Int)) = true := decide_eq_true c21
      clear c21
      replace H := Option.bind_eq_some_iff.mp H
      obtain ⟨t114, A220, H⟩ := H
      replace H : (if x3_1.length < 3518437208883 then (impl_Sink_own.l0 k1 (x3_1 ++ [(⟨(rd_T68 l0_3 x21_1).f0, (rd_T68 l0_3 x21_1).f1, t114⟩ : S68)]) l0_3 (l0_3.length : Int) (wrap64 (x21_1 + 1)) t103 a0_1 t106 l0_3 t109 a0_5 a0_6) else (none)) = some (r1, r2, r3, r4, r5, r6, r7) := H
      have A22 := Aside0.mk A220
      clear A220
      by_cases c23 : x3_1.length < 3518437208883
      ·rw [if_pos c23] at H
       have LMc23 := Aside0.mk c23
       clear c23
       obtain ⟨y117, hy117⟩ : ∃ y_ : List (S68), y_ = (x3_1 ++ [(⟨(rd_T68 l0_3 x21_1).f0, (rd_T68 l0_3 x21_1).f1, t114⟩ : S68)]) := ⟨_, rfl⟩
       replace H : (impl_Sink_own.l0 k1 y117 l0_3 (l0_3.length : Int) (wrap64 (x21_1 + 1)) t103 a0_1 t106 l0_3 t109 a0_5 a0_6) = some (r1, r2, r3, r4, r5, r6, r7) := by first | (rw [hy117]; with_reducible exact H) | (have H2_ := (Option.bind_some _ _).symm.trans H; rw [hy117]; with_reducible exact H2_) | (have H2_ := (Option.bind_some _ _).symm.trans H; with_reducible exact H2_) | with_reducible exact H | (rw [hy117]; exact H) | exact H
       have Ny117 := Aside0.mk hy117
       clear hy117
       have H' := Aside0.mk H
       clear H
       have p112 : 0 ≤ (x21_1 : Int) := of_decide_eq_true (by first | (with_reducible assumption) | assumption)
       have q112 : x21_1 < (l0_3.length : Int) := of_decide_eq_true (by first | (with_reducible assumption) | assumption)
       obtain ⟨ad112, A112_2, c112_2, e112, hx112_0, hx112_1, hx112_2, hl112_2, hi112_2⟩ := at_T68 HR0_3.out x21_1 p112 q112
       cases e112
       replace hx112_0 := (HB.out.cell (World.block_lt_of_cell? w _ hx112_0)).trans hx112_0
       replace hx112_1 := (HB.out.cell (World.block_lt_of_cell? w _ hx112_1)).trans hx112_1
       replace hx112_2 := (HB.out.cell (World.block_lt_of_cell? w _ hx112_2)).trans hx112_2
       have HR112_2 := Aside0.mk hi112_2
       have HC112_2 := Aside0.mk hl112_2
       clear hi112_2 hl112_2
       replace p112 := eq_true p112
       replace q112 := eq_true q112
       try go_wp2_with (first | ((with_reducible refine gate_dst (N := 5) rfl ?_); refine box_event ?hg (N := 5) ?hd (cs := #[.int .i64 0, .int .i64 0, .slice none 0 0]) (t := 68) ?hr ?_; (case hd => rfl); (case hg => rfl); (case hr => first | (go_simp; done) | (go_simp; rfl)); intro gb113 hg w24 hbox hb; have n0_ := Aside0.mk (Kd.S_below (Kd.S_elderB (by (with_reducible repeat (first | apply Kd.S_alloc | apply Kd.S_drewN | apply Kd.S_drew)); exact HO_3.out) gb113 (Nat.le_of_eq hg.symm)) hb); have n1_ := Aside0.mk (Kd.R_below (by (with_reducible repeat (first | apply Kd.R_alloc | apply Kd.R_drewN | apply Kd.R_drew)); exact HO_102000.out) hb); have n2_ := Aside0.mk (Kd.R_below (by (with_reducible repeat (first | apply Kd.R_alloc | apply Kd.R_drewN | apply Kd.R_drew)); exact HO_102002.out) hb); have n3_ := Aside0.mk (Kd.R_below (by (with_reducible repeat (first | apply Kd.R_alloc | apply Kd.R_drewN | apply Kd.R_drew)); exact HO_102004.out) hb); have n4_ := Aside0.mk (blk_below (g := gb101) (o := .cells #[.slice Ao11 t103.length co11, .int .i64 a0_1, .slice Ao13 t106.length co13, .slice (some ad112) l0_3.length c0_3, .slice Ao15 t109.length co15, .int .i64 a0_5, .int .i64 a0_6] 28 (0, 0)) (by (with_reducible repeat (first | refine blk_drewN ?_ _ | refine blk_drew ?_ | refine blk_alloc ?_ _)); exact BK101.out) hb); have n5_ := Aside0.mk (blk_below (g := gb102) (o := .cells #[.slice none 0 0, .int .i64 0, .slice none 0 0, .slice none 0 0, .slice none 0 0, .int .i64 0, .int .i64 0] 28 (0, 0)) (by (with_reducible repeat (first | refine blk_drewN ?_ _ | refine blk_drew ?_ | refine blk_alloc ?_ _)); exact BK102.out) hb); have n6_ := Aside0.mk (below_step (by repeat (first | (with_reducible first | exact HB.out | apply below_alloc | apply pw_below_drewN | apply below_drew1 | refine below_set ?_ GE101.out | refine below_set ?_ GE102.out) | exact HB.out)) hb); have n7_ := Aside0.mk (hbox); have n8_ := Aside0.mk ((by rw [hg]; exact (below_size (by repeat (first | (with_reducible first | exact HB.out | apply below_alloc | apply pw_below_drewN | apply below_drew1 | refine below_set ?_ GE101.out | refine below_set ?_ GE102.out) | exact HB.out))) : w.heap.size ≤ gb113)); have n9_ := Aside0.mk ((by rw [hg]; exact (below_size (by repeat (first | (with_reducible first | exact HB.out | apply below_alloc | apply pw_below_drewN | apply below_drew1 | refine below_set ?_ GE101.out | refine below_set ?_ GE102.out) | exact HB.out))) : w.heap.size ≤ gb113)); have n10_ := Aside0.mk ((by rw [hg]; exact Nat.ne_of_lt (blk_lt (g := gb101) (o := .cells #[.slice Ao11 t103.length co11, .int .i64 a0_1, .slice Ao13 t106.length co13, .slice (some ad112) l0_3.length c0_3, .slice Ao15 t109.length co15, .int .i64 a0_5, .int .i64 a0_6] 28 (0, 0)) (by (with_reducible repeat (first | refine blk_drewN ?_ _ | refine blk_drew ?_ | refine blk_alloc ?_ _)); exact BK101.out)) : gb101 ≠ gb113)); have n11_ := Aside0.mk ((by rw [hg]; exact Nat.ne_of_gt (blk_lt (g := gb101) (o := .cells #[.slice Ao11 t103.length co11, .int .i64 a0_1, .slice Ao13 t106.length co13, .slice (some ad112) l0_3.length c0_3, .slice Ao15 t109.length co15, .int .i64 a0_5, .int .i64 a0_6] 28 (0, 0)) (by (with_reducible repeat (first | refine blk_drewN ?_ _ | refine blk_drew ?_ | refine blk_alloc ?_ _)); exact BK101.out)) : gb113 ≠ gb101)); have n12_ := Aside0.mk ((by rw [hg]; exact Nat.ne_of_lt (blk_lt (g := gb102) (o := .cells #[.slice none 0 0, .int .i64 0, .slice none 0 0, .slice none 0 0, .slice none 0 0, .int .i64 0, .int .i64 0] 28 (0, 0)) (by (with_reducible repeat (first | refine blk_drewN ?_ _ | refine blk_drew ?_ | refine blk_alloc ?_ _)); exact BK102.out)) : gb102 ≠ gb113)); have n13_ := Aside0.mk ((by rw [hg]; exact Nat.ne_of_gt (blk_lt (g := gb102) (o := .cells #[.slice none 0 0, .int .i64 0, .slice none 0 0, .slice none 0 0, .slice none 0 0, .int .i64 0, .int .i64 0] 28 (0, 0)) (by (with_reducible repeat (first | refine blk_drewN ?_ _ | refine blk_drew ?_ | refine blk_alloc ?_ _)); exact BK102.out)) : gb113 ≠ gb102)); clear HO_3; clear HO_102000; clear HO_102002; clear HO_102004; clear BK101; clear BK102; clear HB; have HO_3 := n0_; have HO_102000 := n1_; have HO_102002 := n2_; have HO_102004 := n3_; have BK101 := n4_; have BK102 := n5_; have HB := n6_; have BK113 := n7_; have GW113 := n8_; have GE113 := n9_; have NB101_113 := n10_; have NB113_101 := n11_; have NB102_113 := n12_; have NB113_102 := n13_; clear n0_ n1_ n2_ n3_ n4_ n5_ n6_ n7_ n8_ n9_ n10_ n11_ n12_ n13_; clear hb hbox hg; have hnb25 := NB113_101.out; have hnc25 := NB101_113.out; have hnb26 := NB113_102.out; have hnc26 := NB102_113.out; have hcz27_0 : w24.cell? ⟨gb113, 0, none⟩ = some (.int .i64 0) := (blk_cell BK113.out 0).trans rfl; have hcz27_1 : w24.cell? ⟨gb113, 1, none⟩ = some (.int .i64 0) := (blk_cell BK113.out 1).trans rfl; have hcz27_2 : w24.cell? ⟨gb113, 2, none⟩ = some (.slice none 0 0) := (blk_cell BK113.out 2).trans rfl; have hfz27_0 := blk_frozen BK113.out 0; have hfz27_1 := blk_frozen BK113.out 1; have hfz27_2 := blk_frozen BK113.out 2))
       have n0_ : Aside0 (Kd.S k68 68 (((w24.setCell ⟨gb113, 0, none⟩ (.int .i64 ((rd_T68 l0_3 x21_1).f0))).setCell ⟨gb113, 1, none⟩ (.int .i64 ((rd_T68 l0_3 x21_1).f1))).setCell ⟨gb113, 2, none⟩ (.slice A112_2 ((rd_T68 l0_3 x21_1).f2).length c112_2)) w.heap.size (fun k_ => some k_ ≠ (.slice Ao11 t103.length co11 : Value).ownBlock ∧ some k_ ≠ (.slice Ao13 t106.length co13 : Value).ownBlock ∧ some k_ ≠ (.slice Ao15 t109.length co15 : Value).ownBlock ∧ k_ ≠ gb113) u3 x3_1) := ⟨by (with_reducible repeat (first | apply Kd.S_alloc | apply Kd.S_drewN | apply Kd.S_drew)); exact Kd.S_mono (Kd.S_far (p := ⟨gb113, 2, none⟩) (Kd.S_far (p := ⟨gb113, 1, none⟩) (Kd.S_far (p := ⟨gb113, 0, none⟩) (Kd.S_mono HO_3.out (fun k_ hk => (⟨hk, hk.2⟩ : _ ∧ k_ ≠ gb113))) (fun _ hk => hk.2) (.int .i64 ((rd_T68 l0_3 x21_1).f0))) (fun _ hk => hk.2) (.int .i64 ((rd_T68 l0_3 x21_1).f1))) (fun _ hk => hk.2) (.slice A112_2 ((rd_T68 l0_3 x21_1).f2).length c112_2)) (fun _ hk => ⟨hk.1.1.1, ⟨hk.1.1.2.1, ⟨hk.1.1.2.2, hk.1.2⟩⟩⟩)⟩
       have n1_ : Aside0 (Kd.R (Kd.int .i64) 3 (((w24.setCell ⟨gb113, 0, none⟩ (.int .i64 ((rd_T68 l0_3 x21_1).f0))).setCell ⟨gb113, 1, none⟩ (.int .i64 ((rd_T68 l0_3 x21_1).f1))).setCell ⟨gb113, 2, none⟩ (.slice A112_2 ((rd_T68 l0_3 x21_1).f2).length c112_2)) w.heap.size (fun k_ => some k_ ≠ (.slice Ao13 t106.length co13 : Value).ownBlock ∧ some k_ ≠ (.slice Ao15 t109.length co15 : Value).ownBlock) (.slice Ao11 t103.length co11) t103) := ⟨by (with_reducible repeat (first | apply Kd.R_alloc | apply Kd.R_drewN | apply Kd.R_drew)); exact Kd.R_mono (Kd.R_far (p := ⟨gb113, 2, none⟩) (Kd.R_far (p := ⟨gb113, 1, none⟩) (Kd.R_far (p := ⟨gb113, 0, none⟩) (Kd.R_types HO_102000.out BK113.out (by decide)) (fun _ hk => hk.2) (.int .i64 ((rd_T68 l0_3 x21_1).f0))) (fun _ hk => hk.2) (.int .i64 ((rd_T68 l0_3 x21_1).f1))) (fun _ hk => hk.2) (.slice A112_2 ((rd_T68 l0_3 x21_1).f2).length c112_2)) (fun _ hk => ⟨hk.1.1, hk.1.2⟩)⟩
       have n2_ : Aside0 (Kd.R (Kd.int .i64) 3 (((w24.setCell ⟨gb113, 0, none⟩ (.int .i64 ((rd_T68 l0_3 x21_1).f0))).setCell ⟨gb113, 1, none⟩ (.int .i64 ((rd_T68 l0_3 x21_1).f1))).setCell ⟨gb113, 2, none⟩ (.slice A112_2 ((rd_T68 l0_3 x21_1).f2).length c112_2)) w.heap.size (fun k_ => some k_ ≠ (.slice Ao11 t103.length co11 : Value).ownBlock ∧ some k_ ≠ (.slice Ao15 t109.length co15 : Value).ownBlock) (.slice Ao13 t106.length co13) t106) := ⟨by (with_reducible repeat (first | apply Kd.R_alloc | apply Kd.R_drewN | apply Kd.R_drew)); exact Kd.R_mono (Kd.R_far (p := ⟨gb113, 2, none⟩) (Kd.R_far (p := ⟨gb113, 1, none⟩) (Kd.R_far (p := ⟨gb113, 0, none⟩) (Kd.R_types HO_102002.out BK113.out (by decide)) (fun _ hk => hk.2) (.int .i64 ((rd_T68 l0_3 x21_1).f0))) (fun _ hk => hk.2) (.int .i64 ((rd_T68 l0_3 x21_1).f1))) (fun _ hk => hk.2) (.slice A112_2 ((rd_T68 l0_3 x21_1).f2).length c112_2)) (fun _ hk => ⟨hk.1.1, hk.1.2⟩)⟩
       have n3_ : Aside0 (Kd.R (Kd.int .i64) 3 (((w24.setCell ⟨gb113, 0, none⟩ (.int .i64 ((rd_T68 l0_3 x21_1).f0))).setCell ⟨gb113, 1, none⟩ (.int .i64 ((rd_T68 l0_3 x21_1).f1))).setCell ⟨gb113, 2, none⟩ (.slice A112_2 ((rd_T68 l0_3 x21_1).f2).length c112_2)) w.heap.size (fun k_ => some k_ ≠ (.slice Ao11 t103.length co11 : Value).ownBlock ∧ some k_ ≠ (.slice Ao13 t106.length co13 : Value).ownBlock) (.slice Ao15 t109.length co15) t109) := ⟨by (with_reducible repeat (first | apply Kd.R_alloc | apply Kd.R_drewN | apply Kd.R_drew)); exact Kd.R_mono (Kd.R_far (p := ⟨gb113, 2, none⟩) (Kd.R_far (p := ⟨gb113, 1, none⟩) (Kd.R_far (p := ⟨gb113, 0, none⟩) (Kd.R_types HO_102004.out BK113.out (by decide)) (fun _ hk => hk.2) (.int .i64 ((rd_T68 l0_3 x21_1).f0))) (fun _ hk => hk.2) (.int .i64 ((rd_T68 l0_3 x21_1).f1))) (fun _ hk => hk.2) (.slice A112_2 ((rd_T68 l0_3 x21_1).f2).length c112_2)) (fun _ hk => ⟨hk.1.1, hk.1.2⟩)⟩
       have n4_ : Aside0 ((((w24.setCell ⟨gb113, 0, none⟩ (.int .i64 ((rd_T68 l0_3 x21_1).f0))).setCell ⟨gb113, 1, none⟩ (.int .i64 ((rd_T68 l0_3 x21_1).f1))).setCell ⟨gb113, 2, none⟩ (.slice A112_2 ((rd_T68 l0_3 x21_1).f2).length c112_2)).heap[gb101]? = some (.cells #[.slice Ao11 t103.length co11, .int .i64 a0_1, .slice Ao13 t106.length co13, .slice (some ad112) l0_3.length c0_3, .slice Ao15 t109.length co15, .int .i64 a0_5, .int .i64 a0_6] 28 (0, 0))) := ⟨by (with_reducible repeat (first | refine blk_drewN ?_ _ | refine blk_drew ?_ | refine blk_alloc ?_ _)); refine blk_far ?_ NB101_113.out _; (with_reducible repeat (first | refine blk_drewN ?_ _ | refine blk_drew ?_ | refine blk_alloc ?_ _)); refine blk_far ?_ NB101_113.out _; (with_reducible repeat (first | refine blk_drewN ?_ _ | refine blk_drew ?_ | refine blk_alloc ?_ _)); refine blk_far ?_ NB101_113.out _; (with_reducible repeat (first | refine blk_drewN ?_ _ | refine blk_drew ?_ | refine blk_alloc ?_ _)); exact BK101.out⟩
       have n5_ : Aside0 ((((w24.setCell ⟨gb113, 0, none⟩ (.int .i64 ((rd_T68 l0_3 x21_1).f0))).setCell ⟨gb113, 1, none⟩ (.int .i64 ((rd_T68 l0_3 x21_1).f1))).setCell ⟨gb113, 2, none⟩ (.slice A112_2 ((rd_T68 l0_3 x21_1).f2).length c112_2)).heap[gb102]? = some (.cells #[.slice none 0 0, .int .i64 0, .slice none 0 0, .slice none 0 0, .slice none 0 0, .int .i64 0, .int .i64 0] 28 (0, 0))) := ⟨by (with_reducible repeat (first | refine blk_drewN ?_ _ | refine blk_drew ?_ | refine blk_alloc ?_ _)); refine blk_far ?_ NB102_113.out _; (with_reducible repeat (first | refine blk_drewN ?_ _ | refine blk_drew ?_ | refine blk_alloc ?_ _)); refine blk_far ?_ NB102_113.out _; (with_reducible repeat (first | refine blk_drewN ?_ _ | refine blk_drew ?_ | refine blk_alloc ?_ _)); refine blk_far ?_ NB102_113.out _; (with_reducible repeat (first | refine blk_drewN ?_ _ | refine blk_drew ?_ | refine blk_alloc ?_ _)); exact BK102.out⟩
       have n6_ : Aside0 ((((w24.setCell ⟨gb113, 0, none⟩ (.int .i64 ((rd_T68 l0_3 x21_1).f0))).setCell ⟨gb113, 1, none⟩ (.int .i64 ((rd_T68 l0_3 x21_1).f1))).setCell ⟨gb113, 2, none⟩ (.slice A112_2 ((rd_T68 l0_3 x21_1).f2).length c112_2)).heap[gb113]? = some (.cells #[.int .i64 ((rd_T68 l0_3 x21_1).f0), .int .i64 ((rd_T68 l0_3 x21_1).f1), .slice A112_2 ((rd_T68 l0_3 x21_1).f2).length c112_2] 68 (0, 0))) := ⟨by (with_reducible repeat (first | refine blk_drewN ?_ _ | refine blk_drew ?_ | refine blk_alloc ?_ _)); refine blk_put (cs := #[.int .i64 ((rd_T68 l0_3 x21_1).f0), .int .i64 ((rd_T68 l0_3 x21_1).f1), .slice none 0 0]) ?_ 2 _ rfl; (with_reducible repeat (first | refine blk_drewN ?_ _ | refine blk_drew ?_ | refine blk_alloc ?_ _)); refine blk_put (cs := #[.int .i64 ((rd_T68 l0_3 x21_1).f0), .int .i64 0, .slice none 0 0]) ?_ 1 _ rfl; (with_reducible repeat (first | refine blk_drewN ?_ _ | refine blk_drew ?_ | refine blk_alloc ?_ _)); refine blk_put (cs := #[.int .i64 0, .int .i64 0, .slice none 0 0]) ?_ 0 _ rfl; (with_reducible repeat (first | refine blk_drewN ?_ _ | refine blk_drew ?_ | refine blk_alloc ?_ _)); exact BK113.out⟩
       have n7_ : Aside0 (Below w.heap.size w (((w24.setCell ⟨gb113, 0, none⟩ (.int .i64 ((rd_T68 l0_3 x21_1).f0))).setCell ⟨gb113, 1, none⟩ (.int .i64 ((rd_T68 l0_3 x21_1).f1))).setCell ⟨gb113, 2, none⟩ (.slice A112_2 ((rd_T68 l0_3 x21_1).f2).length c112_2))) := ⟨by repeat (first | (with_reducible first | exact HB.out | apply below_alloc | apply pw_below_drewN | apply below_drew1 | refine below_set ?_ GE101.out | refine below_set ?_ GE102.out | refine below_set ?_ GE113.out) | exact HB.out)⟩
       (try clear HO_3)
       (try clear HO_102000)
       (try clear HO_102002)
       (try clear HO_102004)
       (try clear BK101)
       (try clear BK102)
       (try clear BK113)
       (try clear HB)
       generalize (((w24.setCell ⟨gb113, 0, none⟩ (.int .i64 ((rd_T68 l0_3 x21_1).f0))).setCell ⟨gb113, 1, none⟩ (.int .i64 ((rd_T68 l0_3 x21_1).f1))).setCell ⟨gb113, 2, none⟩ (.slice A112_2 ((rd_T68 l0_3 x21_1).f2).length c112_2)) = w28 at n0_ n1_ n2_ n3_ n4_ n5_ n6_ n7_ ⊢
       have HO_3 := n0_
       have HO_102000 := n1_
       have HO_102002 := n2_
       have HO_102004 := n3_
       have BK101 := n4_
       have BK102 := n5_
       have BK113 := n6_
       have HB := n7_
       clear n0_ n1_ n2_ n3_ n4_ n5_ n6_ n7_
       have n0_ := Aside0.mk (Kd.S_drew HO_3.out)
       have n1_ := Aside0.mk (Kd.R_drew HO_102000.out)
       have n2_ := Aside0.mk (Kd.R_drew HO_102002.out)
       have n3_ := Aside0.mk (Kd.R_drew HO_102004.out)
       have n4_ := Aside0.mk (blk_drew BK101.out)
       have n5_ := Aside0.mk (blk_drew BK102.out)
       have n6_ := Aside0.mk (blk_drew BK113.out)
       have n7_ := Aside0.mk (below_drew1 HB.out)
       clear HO_3
       clear HO_102000
       clear HO_102002
       clear HO_102004
       clear BK101
       clear BK102
       clear BK113
       clear HB
       have HO_3 := n0_
       have HO_102000 := n1_
       have HO_102002 := n2_
       have HO_102004 := n3_
       have BK101 := n4_
       have BK102 := n5_
       have BK113 := n6_
       have HB := n7_
       clear n0_ n1_ n2_ n3_ n4_ n5_ n6_ n7_
       refine start_ (n := 12) (S := fun w' => w'.cell? ⟨gb113, 0, none⟩ = some (.int .i64 ((rd_T68 l0_3 x21_1).f0)) ∧ w'.cell? ⟨gb113, 1, none⟩ = some (.int .i64 ((rd_T68 l0_3 x21_1).f1)) ∧ w'.cell? ⟨gb113, 2, none⟩ = some (.slice A112_2 ((rd_T68 l0_3 x21_1).f2).length c112_2)) (ds := []) (lA 12 0) (by kernel_rfl) rfl rfl ⟨(blk_cell BK113.out 0).trans rfl, (blk_cell BK113.out 1).trans rfl, (blk_cell BK113.out 2).trans rfl⟩ (fun hHeld => ?_); refine with_tabW impl_Sink_own.tab6 impl_Sink_own.bits6 (fun HT_ HW_ => ?_)
       generalize w28.drew = w29 at HO_3 HO_102000 HO_102002 HO_102004 BK101 BK102 BK113 HB hHeld ⊢
       refine pure_ (i := 0) (N := some 25) (v := ?_) (a' := ?_) (lA 12 1) rfl rfl (any_of HT_.out (by kernel_rfl)) (fun _ _ _ h => h) (Or.inl ⟨by rfl, ?_⟩) ?_ ?_
       rotate_left
       ·intro w'
        go_simp
        with_reducible rfl
       rotate_left
       ·simp only [Act.put, sT, s0, s1, i64_w, i32_w]
        rfl
       refine pure_ (i := 1) (N := some 26) (v := ?_) (a' := ?_) (lA 12 3) rfl rfl (any_of HT_.out (by kernel_rfl)) (fun _ _ _ h => h) (Or.inl ⟨by rfl, ?_⟩) ?_ ?_
       rotate_left
       ·intro w'
        go_simp
        with_reducible rfl
       rotate_left
       ·simp only [Act.put, sT, s0, s1, i64_w, i32_w]
        rfl
       refine pure_ (i := 3) (N := some 28) (v := ?_) (a' := ?_) (lA 12 11) rfl rfl (any_of HT_.out (by kernel_rfl)) (fun _ _ _ h => h) (Or.inl ⟨by rfl, ?_⟩) ?_ ?_
       rotate_left
       ·intro w'
        go_simp
        with_reducible rfl
       rotate_left
       ·simp only [Act.put, sT, s0, s1, i64_w, i32_w]
        rfl
       refine pure_ (i := 5) (N := some 30) (v := ?_) (a' := ?_) (lA 12 43) rfl rfl (any_of HT_.out (by kernel_rfl)) (fun _ _ _ h => h) (Or.inl ⟨by rfl, ?_⟩) ?_ ?_
       rotate_left
       ·intro w'
        go_simp
        with_reducible rfl
       rotate_left
       ·simp only [Act.put, sT, s0, s1, i64_w, i32_w]
        rfl
       refine take_ (i := 2) (N := some 27) (v := ?_) (a' := ?_) (lA 12 47) rfl rfl (take_ofW HT_.out HW_.out (by kernel_rfl)) (fun _ _ _ h => h) (Or.inl ⟨by rfl, ?_⟩) hHeld ?_ ?_
       rotate_left
       ·rintro w' ⟨s0, s1, s2⟩
        go_simp
        with_reducible rfl
       rotate_left
       ·simp only [Act.put, sT, s0, s1, i64_w, i32_w]
        rfl
       refine take_ (i := 4) (N := some 29) (v := ?_) (a' := ?_) (lA 12 63) rfl rfl (take_ofW HT_.out HW_.out (by kernel_rfl)) (fun _ _ _ h => h) (Or.inl ⟨by rfl, ?_⟩) hHeld ?_ ?_
       rotate_left
       ·rintro w' ⟨s0, s1, s2⟩
        go_simp
        with_reducible rfl
       rotate_left
       ·simp only [Act.put, sT, s0, s1, i64_w, i32_w]
        rfl
       refine take_ (i := 6) (N := some 31) (v := ?_) (a' := ?_) (lA 12 127) rfl rfl (take_ofW HT_.out HW_.out (by kernel_rfl)) (fun _ _ _ h => h) (Or.inl ⟨by rfl, ?_⟩) hHeld ?_ ?_
       rotate_left
       ·rintro w' ⟨s0, s1, s2⟩
        go_simp
        with_reducible rfl
       rotate_left
       ·simp only [Act.put, sT, s0, s1, i64_w, i32_w]
        rfl
       refine one_ (i := 7) (N := some 32) (lA 12 255) rfl rfl (one_of HT_.out (by kernel_rfl)) (by decide) (fun K hK => ?_)
       refine goes_ Try.func45 (by kernel_rfl) rfl #[.slice A112_2 ((rd_T68 l0_3 x21_1).f2).length c112_2] (by rfl) rfl rfl (by (try simp only [List.map_toArray, List.map_cons, List.map_nil]); first | done | rfl | (simp only [List.length_drop, List.length_take]; rfl)) ?_
       with_reducible refine (slices_Clone_int_int.calls _ _ ((rd_T68 l0_3 x21_1).f2) t114 _ ?side1 ?side2 A22.out).mono ?_
       (case side1 => repeat (first | exact (Kd.C_below HR112_2.out HB.out) | (with_reducible refine Kd.C_alloc ?_ _) | (with_reducible refine Kd.C_drewN ?_ _) | (with_reducible refine Kd.C_drew ?_)))
       (case side2 => exact HC112_2.out)
       rintro e w30 ⟨v115, rfl, ho0, hb⟩
       refine ⟨_, rfl, ?_⟩
       have n0_ := Aside0.mk (Kd.S_elder' (by (with_reducible repeat (first | apply Kd.S_alloc | apply Kd.S_drewN | apply Kd.S_drew)); exact HO_3.out) (Kd.R_base ho0) hb)
       have n1_ := Aside0.mk (Kd.R_elder' (by (with_reducible repeat (first | apply Kd.R_alloc | apply Kd.R_drewN | apply Kd.R_drew)); exact HO_102000.out) (Kd.R_base ho0) hb)
       have n2_ := Aside0.mk (Kd.R_elder' (by (with_reducible repeat (first | apply Kd.R_alloc | apply Kd.R_drewN | apply Kd.R_drew)); exact HO_102002.out) (Kd.R_base ho0) hb)
       have n3_ := Aside0.mk (Kd.R_elder' (by (with_reducible repeat (first | apply Kd.R_alloc | apply Kd.R_drewN | apply Kd.R_drew)); exact HO_102004.out) (Kd.R_base ho0) hb)
       have n4_ := Aside0.mk (Kd.R_lower (Kd.R_new' (Kd.R_new' (Kd.R_new' ho0 (Kd.R_lt (by (with_reducible repeat (first | apply Kd.R_alloc | apply Kd.R_drewN | apply Kd.R_drew)); exact HO_102000.out))) (Kd.R_lt (by (with_reducible repeat (first | apply Kd.R_alloc | apply Kd.R_drewN | apply Kd.R_drew)); exact HO_102002.out))) (Kd.R_lt (by (with_reducible repeat (first | apply Kd.R_alloc | apply Kd.R_drewN | apply Kd.R_drew)); exact HO_102004.out))) (below_size (by repeat (first | (with_reducible first | exact HB.out | apply below_alloc | apply pw_below_drewN | apply below_drew1 | refine below_set ?_ GE101.out | refine below_set ?_ GE102.out | refine below_set ?_ GE113.out) | exact HB.out))))
       have n5_ := Aside0.mk (blk_below (g := gb101) (o := .cells #[.slice Ao11 t103.length co11, .int .i64 a0_1, .slice Ao13 t106.length co13, .slice (some ad112) l0_3.length c0_3, .slice Ao15 t109.length co15, .int .i64 a0_5, .int .i64 a0_6] 28 (0, 0)) (by (with_reducible repeat (first | refine blk_drewN ?_ _ | refine blk_drew ?_ | refine blk_alloc ?_ _)); exact BK101.out) hb)
       have n6_ := Aside0.mk (blk_below (g := gb102) (o := .cells #[.slice none 0 0, .int .i64 0, .slice none 0 0, .slice none 0 0, .slice none 0 0, .int .i64 0, .int .i64 0] 28 (0, 0)) (by (with_reducible repeat (first | refine blk_drewN ?_ _ | refine blk_drew ?_ | refine blk_alloc ?_ _)); exact BK102.out) hb)
       have n7_ := Aside0.mk (blk_below (g := gb113) (o := .cells #[.int .i64 ((rd_T68 l0_3 x21_1).f0), .int .i64 ((rd_T68 l0_3 x21_1).f1), .slice A112_2 ((rd_T68 l0_3 x21_1).f2).length c112_2] 68 (0, 0)) (by (with_reducible repeat (first | refine blk_drewN ?_ _ | refine blk_drew ?_ | refine blk_alloc ?_ _)); exact BK113.out) hb)
       have n8_ := Aside0.mk (below_step (by repeat (first | (with_reducible first | exact HB.out | apply below_alloc | apply pw_below_drewN | apply below_drew1 | refine below_set ?_ GE101.out | refine below_set ?_ GE102.out | refine below_set ?_ GE113.out) | exact HB.out)) hb)
       clear HO_3
       clear HO_102000
       clear HO_102002
       clear HO_102004
       clear BK101
       clear BK102
       clear BK113
       clear HB
       have HO_3 := n0_
       have HO_102000 := n1_
       have HO_102002 := n2_
       have HO_102004 := n3_
       have HO116 := n4_
       have BK101 := n5_
       have BK102 := n6_
       have BK113 := n7_
       have HB := n8_
       clear n0_ n1_ n2_ n3_ n4_ n5_ n6_ n7_ n8_
       (try clear hb)
       (try clear hb2)
       (try clear hk)
       (try clear hi)
       (try clear ho0)
       obtain ⟨Ao31, co31, eo31⟩ := Kd.R_slice HO116.out
       (first | subst eo31 | (injection eo31 with f1_ f2_ f3_; have f4_ := f1_.symm; have f5_ := f3_.symm; clear f1_ f2_ f3_; subst f4_; subst f5_))
       refine hK.out _ _ ⟨(blk_cell BK113.out 0).trans rfl, (blk_cell BK113.out 1).trans rfl, (blk_cell BK113.out 2).trans rfl⟩ (fun hHeld => ?_)
       clear hK K
       refine norm_ (a' := ?_) ?_ ?_
       rotate_left
       ·show Act.put _ (some 32) _ = _
        simp only [Act.put, sT, s0, s1, i64_w, i32_w]
        rfl
       refine pure_ (i := 8) (N := some 33) (v := ?_) (a' := ?_) (lA 12 511) rfl rfl (any_of HT_.out (by kernel_rfl)) (fun _ _ _ h => h) (Or.inl ⟨by rfl, ?_⟩) ?_ ?_
       rotate_left
       ·intro w'
        go_simp
        with_reducible rfl
       rotate_left
       ·simp only [Act.put, sT, s0, s1, i64_w, i32_w]
        rfl
       refine one_ (i := 9) (N := some 34) (lA 12 1023) rfl rfl (one_of HT_.out (by kernel_rfl)) (by decide) (fun K hK => ?_)
       refine value_ (w1 := ?_) (v := ?_) (by rfl) rfl ?_ ?_
       rotate_left 2
       ·go_simp
        constructor
        ·rfl
        ·rfl
       refine hK.out _ _ ⟨(blk_cell (blk_alloc BK113.out _) 0).trans rfl, (blk_cell (blk_alloc BK113.out _) 1).trans rfl, (blk_cell (blk_alloc BK113.out _) 2).trans rfl⟩ (fun hHeld => ?_)
       clear hK K
       refine norm_ (a' := ?_) ?_ ?_
       rotate_left
       ·show Act.put _ (some 34) _ = _
        simp only [Act.put, sT, s0, s1, i64_w, i32_w]
        rfl
       refine one_ (i := 10) (N := some 35) (lA 12 2047) rfl rfl (one_of HT_.out (by kernel_rfl)) (by decide) (fun K hK => ?_)
       refine Kd.S_append_step k68 (w0 := w) w.heap.size (by rfl) (.tmp 25) (.tmp 34) 26 68 (.agg #[(.int .i64 0), (.int .i64 0), (.slice none 0 0)]) 40 rfl Try.underlying26 info68 rfl (by decide) (by omega) u3 x3_1 (⟨(rd_T68 l0_3 x21_1).f0, (rd_T68 l0_3 x21_1).f1, t114⟩ : S68) [.int .i64 ((rd_T68 l0_3 x21_1).f0), .int .i64 ((rd_T68 l0_3 x21_1).f1), .slice Ao31 t114.length co31] (fun k_ => some k_ ≠ (.slice Ao11 t103.length co11 : Value).ownBlock ∧ some k_ ≠ (.slice Ao13 t106.length co13 : Value).ownBlock ∧ some k_ ≠ (.slice Ao15 t109.length co15 : Value).ownBlock ∧ k_ ≠ gb113) (fun k_ => some k_ = (.slice Ao31 t114.length co31 : Value).ownBlock) rfl rfl ?aP (fun k_ hk_ => ((Kd.R_mono (ok' := fun k_ => ((fun k_ => some k_ ≠ (.slice Ao11 t103.length co11 : Value).ownBlock ∧ some k_ ≠ (.slice Ao13 t106.length co13 : Value).ownBlock ∧ some k_ ≠ (.slice Ao15 t109.length co15 : Value).ownBlock ∧ k_ ≠ gb113)) k_ ∧ some k_ ≠ (u3 : Value).ownBlock) (Kd.R_types (Kd.R_apart' (HO116.out) (Kd.S_typed HO_3.out) (by decide)) BK113.out (by decide)) (fun k_ hk => ⟨⟨hk.1.1.1.1.2, ⟨hk.1.1.1.2, ⟨hk.1.1.2, hk.2⟩⟩⟩, hk.1.2⟩))).1 k_ hk_.symm) ?aF ?aO ?aB ?aS ?aL ?_
       (case aP => exact k68_mkM _ _ _ (⟨(rd_T68 l0_3 x21_1).f0, (rd_T68 l0_3 x21_1).f1, t114⟩ : S68) (Kd.R_mono (Kd.R_tight rfl (Kd.R_mono (ok' := fun k_ => ((fun k_ => some k_ ≠ (.slice Ao11 t103.length co11 : Value).ownBlock ∧ some k_ ≠ (.slice Ao13 t106.length co13 : Value).ownBlock ∧ some k_ ≠ (.slice Ao15 t109.length co15 : Value).ownBlock ∧ k_ ≠ gb113)) k_ ∧ some k_ ≠ (u3 : Value).ownBlock) (Kd.R_types (Kd.R_apart' (HO116.out) (Kd.S_typed HO_3.out) (by decide)) BK113.out (by decide)) (fun k_ hk => ⟨⟨hk.1.1.1.1.2, ⟨hk.1.1.1.2, ⟨hk.1.1.2, hk.2⟩⟩⟩, hk.1.2⟩))) (fun _ h_ => h_)))
       (case aB => exact (by repeat (first | (with_reducible first | exact HB.out | apply below_alloc | apply pw_below_drewN | apply below_drew1 | refine below_set ?_ GE101.out | refine below_set ?_ GE102.out | refine below_set ?_ GE113.out) | exact HB.out)))
       (case aF => exact (fun k_ hk => ⟨Kd.fresh' (Kd.R_lt (by (with_reducible repeat (first | apply Kd.R_alloc | apply Kd.R_drewN | apply Kd.R_drew)); exact HO_102000.out)) k_ hk, Kd.fresh' (Kd.R_lt (by (with_reducible repeat (first | apply Kd.R_alloc | apply Kd.R_drewN | apply Kd.R_drew)); exact HO_102002.out)) k_ hk, Kd.fresh' (Kd.R_lt (by (with_reducible repeat (first | apply Kd.R_alloc | apply Kd.R_drewN | apply Kd.R_drew)); exact HO_102004.out)) k_ hk, Kd.freshB (g := gb113) (o := .cells #[.int .i64 ((rd_T68 l0_3 x21_1).f0), .int .i64 ((rd_T68 l0_3 x21_1).f1), .slice A112_2 ((rd_T68 l0_3 x21_1).f2).length c112_2] 68 (0, 0)) (by (with_reducible repeat (first | refine blk_drewN ?_ _ | refine blk_drew ?_ | refine blk_alloc ?_ _)); exact BK113.out) k_ hk⟩))
       (case aO => exact (by (with_reducible repeat (first | apply Kd.S_alloc | apply Kd.S_drewN | apply Kd.S_drew)); exact Kd.S_mono HO_3.out (fun k_ hk => ⟨⟨hk.1.1, ⟨hk.1.2.1, ⟨hk.1.2.2.1, hk.1.2.2.2⟩⟩⟩, fun e_ => hk.2 e_⟩)))
       (case aS => exact (below_size (by repeat (first | (with_reducible first | exact HB.out | apply below_alloc | apply pw_below_drewN | apply below_drew1 | refine below_set ?_ GE101.out | refine below_set ?_ GE102.out | refine below_set ?_ GE113.out) | exact HB.out))))
       (case aL => have := LMc23.out; omega)
       intro v118 w32 ho hb hg hat
       rw [← Ny117.out] at ho
       have n0_ := Aside0.mk (Kd.R_over' (by (with_reducible repeat (first | apply Kd.R_alloc | apply Kd.R_drewN | apply Kd.R_drew)); exact HO_102000.out) (Kd.S_typed (by (with_reducible repeat (first | apply Kd.S_alloc | apply Kd.S_drewN | apply Kd.S_drew)); exact HO_3.out)) (by decide) hg)
       have n1_ := Aside0.mk (Kd.R_over' (by (with_reducible repeat (first | apply Kd.R_alloc | apply Kd.R_drewN | apply Kd.R_drew)); exact HO_102002.out) (Kd.S_typed (by (with_reducible repeat (first | apply Kd.S_alloc | apply Kd.S_drewN | apply Kd.S_drew)); exact HO_3.out)) (by decide) hg)
       have n2_ := Aside0.mk (Kd.R_over' (by (with_reducible repeat (first | apply Kd.R_alloc | apply Kd.R_drewN | apply Kd.R_drew)); exact HO_102004.out) (Kd.S_typed (by (with_reducible repeat (first | apply Kd.S_alloc | apply Kd.S_drewN | apply Kd.S_drew)); exact HO_3.out)) (by decide) hg)
       have n3_ := Aside0.mk (blk_grown (g := gb101) (o := .cells #[.slice Ao11 t103.length co11, .int .i64 a0_1, .slice Ao13 t106.length co13, .slice (some ad112) l0_3.length c0_3, .slice Ao15 t109.length co15, .int .i64 a0_5, .int .i64 a0_6] 28 (0, 0)) (by (with_reducible repeat (first | refine blk_drewN ?_ _ | refine blk_drew ?_ | refine blk_alloc ?_ _)); exact BK101.out) hg (Kd.S_ne HO_3.out BK101.out (by decide)))
       have n4_ := Aside0.mk (blk_grown (g := gb102) (o := .cells #[.slice none 0 0, .int .i64 0, .slice none 0 0, .slice none 0 0, .slice none 0 0, .int .i64 0, .int .i64 0] 28 (0, 0)) (by (with_reducible repeat (first | refine blk_drewN ?_ _ | refine blk_drew ?_ | refine blk_alloc ?_ _)); exact BK102.out) hg (Kd.S_ne HO_3.out BK102.out (by decide)))
       have n5_ := Aside0.mk (blk_grown (g := gb113) (o := .cells #[.int .i64 ((rd_T68 l0_3 x21_1).f0), .int .i64 ((rd_T68 l0_3 x21_1).f1), .slice A112_2 ((rd_T68 l0_3 x21_1).f2).length c112_2] 68 (0, 0)) (by (with_reducible repeat (first | refine blk_drewN ?_ _ | refine blk_drew ?_ | refine blk_alloc ?_ _)); exact BK113.out) hg (Kd.S_away HO_3.out (fun _ hk => hk.1.2.2.2)))
       have n6_ := Aside0.mk (hb)
       have n7_ := Aside0.mk (ho)
       clear HO_102000
       clear HO_102002
       clear HO_102004
       clear BK101
       clear BK102
       clear BK113
       clear HB
       clear HO_3
       clear HO116
       have HO_102000 := n0_
       have HO_102002 := n1_
       have HO_102004 := n2_
       have BK101 := n3_
       have BK102 := n4_
       have BK113 := n5_
       have HB := n6_
       have HO119 := n7_
       clear n0_ n1_ n2_ n3_ n4_ n5_ n6_ n7_
       clear ho hb hg hat
       refine hK.out _ _ ⟨(blk_cell BK113.out 0).trans rfl, (blk_cell BK113.out 1).trans rfl, (blk_cell BK113.out 2).trans rfl⟩ (fun hHeld => ?_)
       clear hK K
       refine norm_ (a' := ?_) ?_ ?_
       rotate_left
       ·show Act.put _ (some 35) _ = _
        simp only [Act.put, sT, s0, s1, i64_w, i32_w]
        rfl
       refine pure_ (i := 11) (N := some 3) (v := ?_) (a' := ?_) (lA 12 4095) rfl rfl (any_of HT_.out (by kernel_rfl)) (fun _ _ _ h => h) (Or.inl ⟨by rfl, ?_⟩) ?_ ?_
       rotate_left
       ·intro w'
        go_simp
        with_reducible rfl
       rotate_left
       ·simp only [Act.put, sT, s0, s1, i64_w, i32_w]
        rfl
       refine done_ (done_of HT_.out (by kernel_rfl)) ?_
       try go_wp2
       go_roundg k1
       case measure => have := HK1.out; omega
       case rel => exact ⟨(y117), (wrap64 (x21_1 + 1)), (by first | rfl | (simp; done) | (simp [*]; done)), H', ⟨by have := HK1.out; omega⟩, ⟨by (with_reducible repeat (first | apply Kd.S_alloc | apply Kd.S_drewN | apply Kd.S_drew)); exact Kd.S_mono HO119.out (fun _ hk => ⟨hk.1, ⟨hk.2.1, hk.2.2.1⟩⟩)⟩, ⟨by (with_reducible repeat (first | apply Kd.R_alloc | apply Kd.R_drewN | apply Kd.R_drew)); exact Kd.R_mono HO_102000.out (fun _ hk => ⟨hk.1.1, hk.1.2⟩)⟩, ⟨by (with_reducible repeat (first | apply Kd.R_alloc | apply Kd.R_drewN | apply Kd.R_drew)); exact Kd.R_mono HO_102002.out (fun _ hk => ⟨hk.1.1, hk.1.2⟩)⟩, ⟨by (with_reducible repeat (first | apply Kd.R_alloc | apply Kd.R_drewN | apply Kd.R_drew)); exact Kd.R_mono HO_102004.out (fun _ hk => ⟨hk.1.1, hk.1.2⟩)⟩, ⟨by (with_reducible repeat (first | refine blk_drewN ?_ _ | refine blk_drew ?_ | refine blk_alloc ?_ _)); exact BK101.out⟩, ⟨by (with_reducible repeat (first | refine blk_drewN ?_ _ | refine blk_drew ?_ | refine blk_alloc ?_ _)); exact BK102.out⟩, ⟨by repeat (first | (with_reducible first | exact HB.out | apply below_alloc | apply pw_below_drewN | apply below_drew1 | refine below_set ?_ GE101.out | refine below_set ?_ GE102.out | refine below_set ?_ GE113.out) | exact HB.out)⟩⟩
      ·rw [if_neg c23] at H
       exact absurd H (by simp)
     ·rw [if_neg c21] at H
      exact absurd H (by simp)
    ·rw [if_neg c20] at H
     exact absurd H (by simp)
   ·rw [if_neg c19] at H
    have c19b0 : decide (x21_1 < (l0_3.length : Int)) = false := decide_eq_false c19
    clear c19
    simp only [Option.some.injEq, Prod.mk.injEq] at H
    obtain ⟨rfl, rfl, rfl, rfl, rfl, rfl, rfl⟩ := H
    obtain ⟨Ao33, co33, eo33⟩ := Kd.S_slice HO_3.out
    subst eo33
    have hnb34 := NB101_102.out
    have hnc34 := NB102_101.out
    have hcz35_0 : wr.cell? ⟨gb101, 0, none⟩ = some (.slice Ao11 t103.length co11) := (blk_cell BK101.out 0).trans rfl
    have hcz35_1 : wr.cell? ⟨gb101, 1, none⟩ = some (.int .i64 a0_1) := (blk_cell BK101.out 1).trans rfl
    have hcz35_2 : wr.cell? ⟨gb101, 2, none⟩ = some (.slice Ao13 t106.length co13) := (blk_cell BK101.out 2).trans rfl
    have hcz35_3 : wr.cell? ⟨gb101, 3, none⟩ = some (.slice A0_3 l0_3.length c0_3) := (blk_cell BK101.out 3).trans rfl
    have hcz35_4 : wr.cell? ⟨gb101, 4, none⟩ = some (.slice Ao15 t109.length co15) := (blk_cell BK101.out 4).trans rfl
    have hcz35_5 : wr.cell? ⟨gb101, 5, none⟩ = some (.int .i64 a0_5) := (blk_cell BK101.out 5).trans rfl
    have hcz35_6 : wr.cell? ⟨gb101, 6, none⟩ = some (.int .i64 a0_6) := (blk_cell BK101.out 6).trans rfl
    have hfz35_0 := blk_frozen BK101.out 0
    have hfz35_1 := blk_frozen BK101.out 1
    have hfz35_2 := blk_frozen BK101.out 2
    have hfz35_3 := blk_frozen BK101.out 3
    have hfz35_4 := blk_frozen BK101.out 4
    have hfz35_5 := blk_frozen BK101.out 5
    have hfz35_6 := blk_frozen BK101.out 6
    have hcz36_0 : wr.cell? ⟨gb102, 0, none⟩ = some (.slice none 0 0) := (blk_cell BK102.out 0).trans rfl
    have hcz36_1 : wr.cell? ⟨gb102, 1, none⟩ = some (.int .i64 0) := (blk_cell BK102.out 1).trans rfl
    have hcz36_2 : wr.cell? ⟨gb102, 2, none⟩ = some (.slice none 0 0) := (blk_cell BK102.out 2).trans rfl
    have hcz36_3 : wr.cell? ⟨gb102, 3, none⟩ = some (.slice none 0 0) := (blk_cell BK102.out 3).trans rfl
    have hcz36_4 : wr.cell? ⟨gb102, 4, none⟩ = some (.slice none 0 0) := (blk_cell BK102.out 4).trans rfl
    have hcz36_5 : wr.cell? ⟨gb102, 5, none⟩ = some (.int .i64 0) := (blk_cell BK102.out 5).trans rfl
    have hcz36_6 : wr.cell? ⟨gb102, 6, none⟩ = some (.int .i64 0) := (blk_cell BK102.out 6).trans rfl
    have hfz36_0 := blk_frozen BK102.out 0
    have hfz36_1 := blk_frozen BK102.out 1
    have hfz36_2 := blk_frozen BK102.out 2
    have hfz36_3 := blk_frozen BK102.out 3
    have hfz36_4 := blk_frozen BK102.out 4
    have hfz36_5 := blk_frozen BK102.out 5
    have hfz36_6 := blk_frozen BK102.out 6
    go_wp2
    refine bodyPost_ret (results_cell_row rfl _ _ gb102 28 #[.slice Ao11 t103.length co11, .int .i64 a0_1, .slice Ao13 t106.length co13, .slice Ao33 x3_1.length co33, .slice Ao15 t109.length co15, .int .i64 a0_5, .int .i64 a0_6] (0, 0) _ rfl (by (with_reducible repeat (first | refine blk_drewN ?_ _ | refine blk_drew ?_ | refine blk_alloc ?_ _)); refine blk_put (cs := #[.slice Ao11 t103.length co11, .int .i64 a0_1, .slice Ao13 t106.length co13, .slice Ao33 x3_1.length co33, .slice Ao15 t109.length co15, .int .i64 a0_5, .int .i64 0]) ?_ 6 _ rfl; (with_reducible repeat (first | refine blk_drewN ?_ _ | refine blk_drew ?_ | refine blk_alloc ?_ _)); refine blk_put (cs := #[.slice Ao11 t103.length co11, .int .i64 a0_1, .slice Ao13 t106.length co13, .slice Ao33 x3_1.length co33, .slice Ao15 t109.length co15, .int .i64 0, .int .i64 0]) ?_ 5 _ rfl; (with_reducible repeat (first | refine blk_drewN ?_ _ | refine blk_drew ?_ | refine blk_alloc ?_ _)); refine blk_put (cs := #[.slice Ao11 t103.length co11, .int .i64 a0_1, .slice Ao13 t106.length co13, .slice Ao33 x3_1.length co33, .slice none 0 0, .int .i64 0, .int .i64 0]) ?_ 4 _ rfl; (with_reducible repeat (first | refine blk_drewN ?_ _ | refine blk_drew ?_ | refine blk_alloc ?_ _)); refine blk_put (cs := #[.slice Ao11 t103.length co11, .int .i64 a0_1, .slice Ao13 t106.length co13, .slice none 0 0, .slice none 0 0, .int .i64 0, .int .i64 0]) ?_ 3 _ rfl; (with_reducible repeat (first | refine blk_drewN ?_ _ | refine blk_drew ?_ | refine blk_alloc ?_ _)); refine blk_put (cs := #[.slice Ao11 t103.length co11, .int .i64 a0_1, .slice none 0 0, .slice none 0 0, .slice none 0 0, .int .i64 0, .int .i64 0]) ?_ 2 _ rfl; (with_reducible repeat (first | refine blk_drewN ?_ _ | refine blk_drew ?_ | refine blk_alloc ?_ _)); refine blk_put (cs := #[.slice Ao11 t103.length co11, .int .i64 0, .slice none 0 0, .slice none 0 0, .slice none 0 0, .int .i64 0, .int .i64 0]) ?_ 1 _ rfl; (with_reducible repeat (first | refine blk_drewN ?_ _ | refine blk_drew ?_ | refine blk_alloc ?_ _)); refine blk_put (cs := #[.slice none 0 0, .int .i64 0, .slice none 0 0, .slice none 0 0, .slice none 0 0, .int .i64 0, .int .i64 0]) ?_ 0 _ rfl; (with_reducible repeat (first | refine blk_drewN ?_ _ | refine blk_drew ?_ | refine blk_alloc ?_ _)); refine blk_far ?_ NB102_101.out _; (with_reducible repeat (first | refine blk_drewN ?_ _ | refine blk_drew ?_ | refine blk_alloc ?_ _)); exact BK102.out) Try.underlying28 rfl (by kernel_rfl)) rfl ?_
    exact ⟨_, _, _, _, by first | rfl | (simp [errW_none, errW_some] <;> rfl) | (simp [*, errW_none, errW_some] <;> rfl), by (with_reducible repeat (first | apply Kd.R_alloc | apply Kd.R_drewN | apply Kd.R_drew)); exact Kd.R_mono (Kd.R_far (p := ⟨gb102, 6, none⟩) (Kd.R_far (p := ⟨gb102, 5, none⟩) (Kd.R_far (p := ⟨gb102, 4, none⟩) (Kd.R_far (p := ⟨gb102, 3, none⟩) (Kd.R_far (p := ⟨gb102, 2, none⟩) (Kd.R_far (p := ⟨gb102, 1, none⟩) (Kd.R_far (p := ⟨gb102, 0, none⟩) (Kd.R_far (p := ⟨gb101, 3, none⟩) (Kd.R_types (Kd.R_types HO_102000.out BK101.out (by decide)) BK102.out (by decide)) (fun _ hk => hk.1.2) (.slice Ao33 x3_1.length co33)) (fun _ hk => hk.2) (.slice Ao11 t103.length co11)) (fun _ hk => hk.2) (.int .i64 a0_1)) (fun _ hk => hk.2) (.slice Ao13 t106.length co13)) (fun _ hk => hk.2) (.slice Ao33 x3_1.length co33)) (fun _ hk => hk.2) (.slice Ao15 t109.length co15)) (fun _ hk => hk.2) (.int .i64 a0_5)) (fun _ hk => hk.2) (.int .i64 a0_6)) (fun _ hk => ⟨hk.1.1.1, hk.1.1.2⟩), by (with_reducible repeat (first | apply Kd.R_alloc | apply Kd.R_drewN | apply Kd.R_drew)); exact Kd.R_mono (Kd.R_far (p := ⟨gb102, 6, none⟩) (Kd.R_far (p := ⟨gb102, 5, none⟩) (Kd.R_far (p := ⟨gb102, 4, none⟩) (Kd.R_far (p := ⟨gb102, 3, none⟩) (Kd.R_far (p := ⟨gb102, 2, none⟩) (Kd.R_far (p := ⟨gb102, 1, none⟩) (Kd.R_far (p := ⟨gb102, 0, none⟩) (Kd.R_far (p := ⟨gb101, 3, none⟩) (Kd.R_types (Kd.R_types HO_102002.out BK101.out (by decide)) BK102.out (by decide)) (fun _ hk => hk.1.2) (.slice Ao33 x3_1.length co33)) (fun _ hk => hk.2) (.slice Ao11 t103.length co11)) (fun _ hk => hk.2) (.int .i64 a0_1)) (fun _ hk => hk.2) (.slice Ao13 t106.length co13)) (fun _ hk => hk.2) (.slice Ao33 x3_1.length co33)) (fun _ hk => hk.2) (.slice Ao15 t109.length co15)) (fun _ hk => hk.2) (.int .i64 a0_5)) (fun _ hk => hk.2) (.int .i64 a0_6)) (fun _ hk => ⟨hk.1.1.1, hk.1.1.2⟩), by (with_reducible repeat (first | apply Kd.S_alloc | apply Kd.S_drewN | apply Kd.S_drew)); exact Kd.S_mono (Kd.S_far (p := ⟨gb102, 6, none⟩) (Kd.S_far (p := ⟨gb102, 5, none⟩) (Kd.S_far (p := ⟨gb102, 4, none⟩) (Kd.S_far (p := ⟨gb102, 3, none⟩) (Kd.S_far (p := ⟨gb102, 2, none⟩) (Kd.S_far (p := ⟨gb102, 1, none⟩) (Kd.S_far (p := ⟨gb102, 0, none⟩) (Kd.S_far (p := ⟨gb101, 3, none⟩) (Kd.S_types (Kd.S_types HO_3.out BK101.out (by decide)) BK102.out (by decide)) (fun _ hk => hk.1.2) (.slice Ao33 x3_1.length co33)) (fun _ hk => hk.2) (.slice Ao11 t103.length co11)) (fun _ hk => hk.2) (.int .i64 a0_1)) (fun _ hk => hk.2) (.slice Ao13 t106.length co13)) (fun _ hk => hk.2) (.slice Ao33 x3_1.length co33)) (fun _ hk => hk.2) (.slice Ao15 t109.length co15)) (fun _ hk => hk.2) (.int .i64 a0_5)) (fun _ hk => hk.2) (.int .i64 a0_6)) (fun _ hk => ⟨hk.1.1.1, ⟨hk.1.1.2.1, hk.1.1.2.2⟩⟩), by (with_reducible repeat (first | apply Kd.R_alloc | apply Kd.R_drewN | apply Kd.R_drew)); exact Kd.R_mono (Kd.R_far (p := ⟨gb102, 6, none⟩) (Kd.R_far (p := ⟨gb102, 5, none⟩) (Kd.R_far (p := ⟨gb102, 4, none⟩) (Kd.R_far (p := ⟨gb102, 3, none⟩) (Kd.R_far (p := ⟨gb102, 2, none⟩) (Kd.R_far (p := ⟨gb102, 1, none⟩) (Kd.R_far (p := ⟨gb102, 0, none⟩) (Kd.R_far (p := ⟨gb101, 3, none⟩) (Kd.R_types (Kd.R_types HO_102004.out BK101.out (by decide)) BK102.out (by decide)) (fun _ hk => hk.1.2) (.slice Ao33 x3_1.length co33)) (fun _ hk => hk.2) (.slice Ao11 t103.length co11)) (fun _ hk => hk.2) (.int .i64 a0_1)) (fun _ hk => hk.2) (.slice Ao13 t106.length co13)) (fun _ hk => hk.2) (.slice Ao33 x3_1.length co33)) (fun _ hk => hk.2) (.slice Ao15 t109.length co15)) (fun _ hk => hk.2) (.int .i64 a0_5)) (fun _ hk => hk.2) (.int .i64 a0_6)) (fun _ hk => ⟨hk.1.1.1, hk.1.1.2⟩), by repeat (first | (with_reducible first | exact HB.out | apply below_alloc | apply pw_below_drewN | apply below_drew1 | refine below_set ?_ GE101.out | refine below_set ?_ GE102.out) | exact HB.out)⟩

end Go.Proofs.Ytjndadjhhknggaa.Q
end
section
/- Contracts of a function, printed for this claim by a program of ours over the kit's print. -/
namespace Go.Proofs.Ytjndadjhhknggaa.Q
open Go.RowKit Go.Proofs.YtjndadjhhknggaaW.PrintWords Go.Proofs.YtjndadjhhknggaaW.PrintLast Go.Proofs.YtjndadjhhknggaaW.PrintMore
attribute [local go_sem] max2_int min2_int max_two min_two max_three min_three max_four min_four   -- for this text's walks alone
set_option linter.unusedVariables false
set_option linter.unusedSimpArgs false

/-! ### spec_l16Own: function 44 -/
def spec_l16Own.l0 : Nat → List (S68) → List (S68) → Int → Int → List Int → Int → List Int → List (S68) → List Int → Int → Int → Option (List Int × Int × List Int × (List (S68)) × List Int × Int × Int)
 | 0, _, _, _, _, _, _, _, _, _, _, _ => none
 | k + 1, x3, x22, x23, x24, x102000, x102001, x102002, x102003, x102004, x102005, x102006 => if x24 < x23 then (if 0 ≤ x24 then (if x24 < (x22.length : Int) then ((some (([] : List Int) : List Int)).bind fun y123 => (if y123.length + ((rd_T68 x22 x24).f2).length < 17592186044416 then (if x3.length < 3518437208883 then (spec_l16Own.l0 k (x3 ++ [(⟨(rd_T68 x22 x24).f0, (rd_T68 x22 x24).f1, (y123 ++ ((rd_T68 x22 x24).f2))⟩ : S68)]) x22 x23 (wrap64 (x24 + 1)) x102000 x102001 x102002 x102003 x102004 x102005 x102006) else (none)) else (none))) else (none)) else (none)) else (some (x102000, x102001, x102002, x3, x102004, x102005, x102006))
def spec_l16Own.f (k : Nat) (l0_0 : List Int) (a0_1 : Int) (l0_2 : List Int) (l0_3 : List (S68)) (l0_4 : List Int) (a0_5 : Int) (a0_6 : Int) : Option (List Int × Int × List Int × (List (S68)) × List Int × Int × Int) := (some (([] : List Int) : List Int)).bind fun y103 => (if y103.length + l0_0.length < 17592186044416 then ((some (([] : List Int) : List Int)).bind fun y109 => (if y109.length + l0_2.length < 17592186044416 then ((some (([] : List Int) : List Int)).bind fun y115 => (if y115.length + l0_4.length < 17592186044416 then (spec_l16Own.l0 k ([] : List (S68)) l0_3 (l0_3.length : Int) 0 (y103 ++ l0_0) a0_1 (y109 ++ l0_2) l0_3 (y115 ++ l0_4) a0_5 a0_6) else (none))) else (none))) else (none))
def spec_l16Own.T8 : Bool × List (List Nat × List Nat) := (true, [([], []), ([], []), ([1], [1]), ([], []), ([3], [3]), ([], []), ([], []), ([6], [6]), ([5, 7], [5, 7]), ([2, 4, 8], [2, 4, 8]), ([9], [9]), ([0, 10, 8], [0, 10]), ([11, 11, 0, 1, 2, 3, 4, 5, 6, 7, 8, 9, 10, 11], [0, 11])])
def spec_l16Own.B8 : List Nat := [0, 0, 2, 0, 8, 0, 0, 64, 224, 510, 1022, 2047, 4095]
theorem spec_l16Own.tab8 : rtab .any (opsOf Try.f44 8) = spec_l16Own.T8 := by kernel_rfl
theorem spec_l16Own.bits8 : waitsOk spec_l16Own.T8.2 spec_l16Own.B8 = true := by kernel_rfl
set_option maxHeartbeats 8000000 in
set_option maxRecDepth 100000 in
theorem spec_l16Own.calls (k : Nat) (A0_0 : Option Addr) (c0_0 : Nat) (l0_0 : List Int) (a0_1 : Int) (A0_2 : Option Addr) (c0_2 : Nat) (l0_2 : List Int) (A0_3 : Option Addr) (c0_3 : Nat) (l0_3 : List (S68)) (A0_4 : Option Addr) (c0_4 : Nat) (l0_4 : List Int) (a0_5 : Int) (a0_6 : Int) (r1 : List Int) (r2 : Int) (r3 : List Int) (r4 : List (S68)) (r5 : List Int) (r6 : Int) (r7 : Int) (w : World) (hr0_0 : Kd.C (Kd.int .i64) w A0_0 l0_0.length l0_0) (hc0_0 : l0_0.length ≤ c0_0) (hr0_2 : Kd.C (Kd.int .i64) w A0_2 l0_2.length l0_2) (hc0_2 : l0_2.length ≤ c0_2) (hr0_3 : Kd.C k68 w A0_3 l0_3.length l0_3) (hc0_3 : l0_3.length ≤ c0_3) (hr0_4 : Kd.C (Kd.int .i64) w A0_4 l0_4.length l0_4) (hc0_4 : l0_4.length ≤ c0_4) (h : spec_l16Own.f k l0_0 a0_1 l0_2 l0_3 l0_4 a0_5 a0_6 = some (r1, r2, r3, r4, r5, r6, r7)) :
  Calls Try.prog 44 #[.agg #[.slice A0_0 l0_0.length c0_0, .int .i64 a0_1, .slice A0_2 l0_2.length c0_2, .slice A0_3 l0_3.length c0_3, .slice A0_4 l0_4.length c0_4, .int .i64 a0_5, .int .i64 a0_6]] w fun e w' => ∃ v0_ v2_ v3_ v4_ : Value, e = .returned (.agg #[v0_, .int .i64 r2, v2_, v3_, v4_, .int .i64 r6, .int .i64 r7]) ∧ Kd.R (Kd.int .i64) 3 w' w.heap.size (fun k_ => some k_ ≠ (v2_ : Value).ownBlock ∧ some k_ ≠ (v4_ : Value).ownBlock) v0_ r1 ∧ Kd.R (Kd.int .i64) 3 w' w.heap.size (fun k_ => some k_ ≠ (v0_ : Value).ownBlock ∧ some k_ ≠ (v4_ : Value).ownBlock) v2_ r3 ∧ Kd.S k68 68 w' w.heap.size (fun k_ => some k_ ≠ (v0_ : Value).ownBlock ∧ some k_ ≠ (v2_ : Value).ownBlock ∧ some k_ ≠ (v4_ : Value).ownBlock) v3_ r4 ∧ Kd.R (Kd.int .i64) 3 w' w.heap.size (fun k_ => some k_ ≠ (v0_ : Value).ownBlock ∧ some k_ ≠ (v2_ : Value).ownBlock) v4_ r5 ∧ Below w.heap.size w w' := by
 have hu28 := Try.underlying28
 have hu68 := Try.underlying68
 have HR0_0 := Aside0.mk hr0_0
 have HC0_0 := Aside0.mk hc0_0
 clear hr0_0 hc0_0
 have HR0_2 := Aside0.mk hr0_2
 have HC0_2 := Aside0.mk hc0_2
 clear hr0_2 hc0_2
 have HR0_3 := Aside0.mk hr0_3
 have HC0_3 := Aside0.mk hc0_3
 clear hr0_3 hc0_3
 have HR0_4 := Aside0.mk hr0_4
 have HC0_4 := Aside0.mk hc0_4
 clear hr0_4 hc0_4
 have HB := Aside0.mk (Below.refl w.heap.size w)
 have H : ((some (([] : List Int) : List Int)).bind fun y103 => (if y103.length + l0_0.length < 17592186044416 then ((some (([] : List Int) : List Int)).bind fun y109 => (if y109.length + l0_2.length < 17592186044416 then ((some (([] : List Int) : List Int)).bind fun y115 => (if y115.length + l0_4.length < 17592186044416 then (spec_l16Own.l0 k ([] : List (S68)) l0_3 (l0_3.length : Int) 0 (y103 ++ l0_0) a0_1 (y109 ++ l0_2) l0_3 (y115 ++ l0_4) a0_5 a0_6) else (none))) else (none))) else (none))) = some (r1, r2, r3, r4, r5, r6, r7) := h
 clear h
 obtain ⟨y103, hy103⟩ : ∃ y_ : List Int, y_ = (([] : List Int)) := ⟨_, rfl⟩
 replace H : (if y103.length + l0_0.length < 17592186044416 then ((some (([] : List Int) : List Int)).bind fun y109 => (if y109.length + l0_2.length < 17592186044416 then ((some (([] : List Int) : List Int)).bind fun y115 => (if y115.length + l0_4.length < 17592186044416 then (spec_l16Own.l0 k ([] : List (S68)) l0_3 (l0_3.length : Int) 0 (y103 ++ l0_0) a0_1 (y109 ++ l0_2) l0_3 (y115 ++ l0_4) a0_5 a0_6) else (none))) else (none))) else (none)) = some (r1, r2, r3, r4, r5, r6, r7) := by first | (rw [hy103]; with_reducible exact H) | (have H2_ := (Option.bind_some _ _).symm.trans H; rw [hy103]; with_reducible exact H2_) | (have H2_ := (Option.bind_some _ _).symm.trans H; with_reducible exact H2_) | with_reducible exact H | (rw [hy103]; exact H) | exact H
 have Ny103 := Aside0.mk hy103
 clear hy103
 by_cases c2 : y103.length + l0_0.length < 17592186044416
 ·rw [if_pos c2] at H
  have LMc2 := Aside0.mk c2
  clear c2
  obtain ⟨y106, hy106⟩ : ∃ y_ : List Int, y_ = (y103 ++ l0_0) := ⟨_, rfl⟩
  replace H : ((some (([] : List Int) : List Int)).bind fun y109 => (if y109.length + l0_2.length < 17592186044416 then ((some (([] : List Int) : List Int)).bind fun y115 => (if y115.length + l0_4.length < 17592186044416 then (spec_l16Own.l0 k ([] : List (S68)) l0_3 (l0_3.length : Int) 0 y106 a0_1 (y109 ++ l0_2) l0_3 (y115 ++ l0_4) a0_5 a0_6) else (none))) else (none))) = some (r1, r2, r3, r4, r5, r6, r7) := by first | (rw [hy106]; with_reducible exact H) | (have H2_ := (Option.bind_some _ _).symm.trans H; rw [hy106]; with_reducible exact H2_) | (have H2_ := (Option.bind_some _ _).symm.trans H; with_reducible exact H2_) | with_reducible exact H | (rw [hy106]; exact H) | exact H
  have Ny106 := Aside0.mk hy106
  clear hy106
  obtain ⟨y109, hy109⟩ : ∃ y_ : List Int, y_ = (([] : List Int)) := ⟨_, rfl⟩
  replace H : (if y109.length + l0_2.length < 17592186044416 then ((some (([] : List Int) : List Int)).bind fun y115 => (if y115.length + l0_4.length < 17592186044416 then (spec_l16Own.l0 k ([] : List (S68)) l0_3 (l0_3.length : Int) 0 y106 a0_1 (y109 ++ l0_2) l0_3 (y115 ++ l0_4) a0_5 a0_6) else (none))) else (none)) = some (r1, r2, r3, r4, r5, r6, r7) := by first | (rw [hy109]; with_reducible exact H) | (have H2_ := (Option.bind_some _ _).symm.trans H; rw [hy109]; with_reducible exact H2_) | (have H2_ := (Option.bind_some _ _).symm.trans H; with_reducible exact H2_) | with_reducible exact H | (rw [hy109]; exact H) | exact H
  have Ny109 := Aside0.mk hy109
  clear hy109
  by_cases c3 : y109.length + l0_2.length < 17592186044416
  ·rw [if_pos c3] at H
   have LMc3 := Aside0.mk c3
   clear c3
   obtain ⟨y112, hy112⟩ : ∃ y_ : List Int, y_ = (y109 ++ l0_2) := ⟨_, rfl⟩
   replace H : ((some (([] : List Int) : List Int)).bind fun y115 => (if y115.length + l0_4.length < 17592186044416 then (spec_l16Own.l0 k ([] : List (S68)) l0_3 (l0_3.length : Int) 0 y106 a0_1 y112 l0_3 (y115 ++ l0_4) a0_5 a0_6) else (none))) = some (r1, r2, r3, r4, r5, r6, r7) := by first | (rw [hy112]; with_reducible exact H) | (have H2_ := (Option.bind_some _ _).symm.trans H; rw [hy112]; with_reducible exact H2_) | (have H2_ := (Option.bind_some _ _).symm.trans H; with_reducible exact H2_) | with_reducible exact H | (rw [hy112]; exact H) | exact H
   have Ny112 := Aside0.mk hy112
   clear hy112
   obtain ⟨y115, hy115⟩ : ∃ y_ : List Int, y_ = (([] : List Int)) := ⟨_, rfl⟩
   replace H : (if y115.length + l0_4.length < 17592186044416 then (spec_l16Own.l0 k ([] : List (S68)) l0_3 (l0_3.length : Int) 0 y106 a0_1 y112 l0_3 (y115 ++ l0_4) a0_5 a0_6) else (none)) = some (r1, r2, r3, r4, r5, r6, r7) := by first | (rw [hy115]; with_reducible exact H) | (have H2_ := (Option.bind_some _ _).symm.trans H; rw [hy115]; with_reducible exact H2_) | (have H2_ := (Option.bind_some _ _).symm.trans H; with_reducible exact H2_) | with_reducible exact H | (rw [hy115]; exact H) | exact H
   have Ny115 := Aside0.mk hy115
   clear hy115
   by_cases c4 : y115.length + l0_4.length < 17592186044416
   ·rw [if_pos c4] at H
    have LMc4 := Aside0.mk c4
    clear c4
    obtain ⟨y118, hy118⟩ : ∃ y_ : List Int, y_ = (y115 ++ l0_4) := ⟨_, rfl⟩
    replace H : (spec_l16Own.l0 k ([] : List (S68)) l0_3 (l0_3.length : Int) 0 y106 a0_1 y112 l0_3 y118 a0_5 a0_6) = some (r1, r2, r3, r4, r5, r6, r7) := by first | (rw [hy118]; with_reducible exact H) | (have H2_ := (Option.bind_some _ _).symm.trans H; rw [hy118]; with_reducible exact H2_) | (have H2_ := (Option.bind_some _ _).symm.trans H; with_reducible exact H2_) | with_reducible exact H | (rw [hy118]; exact H) | exact H
    have Ny118 := Aside0.mk hy118
    clear hy118
    have H' := Aside0.mk H
    clear H
    go_enter Try.func44, Try.ntmps44
    go_wp2_with (first | ((with_reducible refine gate_dst (N := 1) rfl ?_); refine box_event ?hg (N := 1) ?hd (cs := #[.slice A0_0 l0_0.length c0_0, .int .i64 a0_1, .slice A0_2 l0_2.length c0_2, .slice A0_3 l0_3.length c0_3, .slice A0_4 l0_4.length c0_4, .int .i64 a0_5, .int .i64 a0_6]) (t := 28) ?hr ?_; (case hd => rfl); (case hg => rfl); (case hr => first | (go_simp; done) | (go_simp; rfl)); intro gb101 hg w5 hbox hb; have n0_ := Aside0.mk (below_step (by repeat (first | (with_reducible first | exact HB.out | apply below_alloc | apply pw_below_drewN | apply below_drew1) | exact HB.out)) hb); have n1_ := Aside0.mk (hbox); have n2_ := Aside0.mk ((by rw [hg]; exact (below_size (by repeat (first | (with_reducible first | exact HB.out | apply below_alloc | apply pw_below_drewN | apply below_drew1) | exact HB.out))) : w.heap.size ≤ gb101)); have n3_ := Aside0.mk ((by rw [hg]; exact (below_size (by repeat (first | (with_reducible first | exact HB.out | apply below_alloc | apply pw_below_drewN | apply below_drew1) | exact HB.out))) : w.heap.size ≤ gb101)); clear HB; have HB := n0_; have BK101 := n1_; have GW101 := n2_; have GE101 := n3_; clear n0_ n1_ n2_ n3_; clear hb hbox hg) | ((with_reducible refine gate_dst (N := 2) rfl ?_); refine box_event ?hg (N := 2) ?hd (cs := #[.slice none 0 0, .int .i64 0, .slice none 0 0, .slice none 0 0, .slice none 0 0, .int .i64 0, .int .i64 0]) (t := 28) ?hr ?_; (case hd => rfl); (case hg => rfl); (case hr => first | (go_simp; done) | (go_simp; rfl)); intro gb102 hg w6 hbox hb; have n0_ := Aside0.mk (blk_below (g := gb101) (o := .cells #[.slice A0_0 l0_0.length c0_0, .int .i64 a0_1, .slice A0_2 l0_2.length c0_2, .slice A0_3 l0_3.length c0_3, .slice A0_4 l0_4.length c0_4, .int .i64 a0_5, .int .i64 a0_6] 28 (0, 0)) (by (with_reducible repeat (first | refine blk_drewN ?_ _ | refine blk_drew ?_ | refine blk_alloc ?_ _)); exact BK101.out) hb); have n1_ := Aside0.mk (below_step (by repeat (first | (with_reducible first | exact HB.out | apply below_alloc | apply pw_below_drewN | apply below_drew1 | refine below_set ?_ GE101.out) | exact HB.out)) hb); have n2_ := Aside0.mk (hbox); have n3_ := Aside0.mk ((by rw [hg]; exact (below_size (by repeat (first | (with_reducible first | exact HB.out | apply below_alloc | apply pw_below_drewN | apply below_drew1 | refine below_set ?_ GE101.out) | exact HB.out))) : w.heap.size ≤ gb102)); have n4_ := Aside0.mk ((by rw [hg]; exact (below_size (by repeat (first | (with_reducible first | exact HB.out | apply below_alloc | apply pw_below_drewN | apply below_drew1 | refine below_set ?_ GE101.out) | exact HB.out))) : w.heap.size ≤ gb102)); have n5_ := Aside0.mk ((by rw [hg]; exact Nat.ne_of_lt (blk_lt (g := gb101) (o := .cells #[.slice A0_0 l0_0.length c0_0, .int .i64 a0_1, .slice A0_2 l0_2.length c0_2, .slice A0_3 l0_3.length c0_3, .slice A0_4 l0_4.length c0_4, .int .i64 a0_5, .int .i64 a0_6] 28 (0, 0)) (by (with_reducible repeat (first | refine blk_drewN ?_ _ | refine blk_drew ?_ | refine blk_alloc ?_ _)); exact BK101.out)) : gb101 ≠ gb102)); have n6_ := Aside0.mk ((by rw [hg]; exact Nat.ne_of_gt (blk_lt (g := gb101) (o := .cells #[.slice A0_0 l0_0.length c0_0, .int .i64 a0_1, .slice A0_2 l0_2.length c0_2, .slice A0_3 l0_3.length c0_3, .slice A0_4 l0_4.length c0_4, .int .i64 a0_5, .int .i64 a0_6] 28 (0, 0)) (by (with_reducible repeat (first | refine blk_drewN ?_ _ | refine blk_drew ?_ | refine blk_alloc ?_ _)); exact BK101.out)) : gb102 ≠ gb101)); clear BK101; clear HB; have BK101 := n0_; have HB := n1_; have BK102 := n2_; have GW102 := n3_; have GE102 := n4_; have NB101_102 := n5_; have NB102_101 := n6_; clear n0_ n1_ n2_ n3_ n4_ n5_ n6_; clear hb hbox hg) | ((with_reducible refine gate_dst (N := 6) rfl ?_); refine Kd.R_lit (Kd.int .i64) _ 3 ?hg (N := 6) ?hd (xs := ([] : List Int)) (inner := []) (ok := fun _ => True) (okp := fun _ => True) ?hr ?hp (fun _ hk => hk) trivial (Below.refl _ _) (Nat.le_refl _) (by simp) ?_; (case hd => rfl); (case hg => rfl); (case hr => first | (go_simp; done) | (go_simp; rfl)); (case hp => exact (Reps.none _ _)); intro v104 w7 ho8 hb hg_ hnew_; clear hg_ hnew_; (first | rw [← Ny103.out] at ho8 | (simp only [Int.reduceToNat] at ho8; rw [← Ny103.out] at ho8)); have n0_ := Aside0.mk (Kd.R_lower ho8 (below_size (by repeat (first | (with_reducible first | exact HB.out | apply below_alloc | apply pw_below_drewN | apply below_drew1 | refine below_set ?_ GE101.out | refine below_set ?_ GE102.out) | exact HB.out)))); have n1_ := Aside0.mk (blk_below (g := gb101) (o := .cells #[.slice A0_0 l0_0.length c0_0, .int .i64 a0_1, .slice A0_2 l0_2.length c0_2, .slice A0_3 l0_3.length c0_3, .slice A0_4 l0_4.length c0_4, .int .i64 a0_5, .int .i64 a0_6] 28 (0, 0)) (by (with_reducible repeat (first | refine blk_drewN ?_ _ | refine blk_drew ?_ | refine blk_alloc ?_ _)); exact BK101.out) hb); have n2_ := Aside0.mk (blk_below (g := gb102) (o := .cells #[.slice none 0 0, .int .i64 0, .slice none 0 0, .slice none 0 0, .slice none 0 0, .int .i64 0, .int .i64 0] 28 (0, 0)) (by (with_reducible repeat (first | refine blk_drewN ?_ _ | refine blk_drew ?_ | refine blk_alloc ?_ _)); exact BK102.out) hb); have n3_ := Aside0.mk (below_step (by repeat (first | (with_reducible first | exact HB.out | apply below_alloc | apply pw_below_drewN | apply below_drew1 | refine below_set ?_ GE101.out | refine below_set ?_ GE102.out) | exact HB.out)) hb); clear BK101; clear BK102; clear HB; have HO105 := n0_; have BK101 := n1_; have BK102 := n2_; have HB := n3_; clear n0_ n1_ n2_ n3_; clear hb ho8; have hnb9 := NB101_102.out; have hnc9 := NB102_101.out; have hcz10_0 : w7.cell? ⟨gb101, 0, none⟩ = some (.slice A0_0 l0_0.length c0_0) := (blk_cell BK101.out 0).trans rfl; have hcz10_1 : w7.cell? ⟨gb101, 1, none⟩ = some (.int .i64 a0_1) := (blk_cell BK101.out 1).trans rfl; have hcz10_2 : w7.cell? ⟨gb101, 2, none⟩ = some (.slice A0_2 l0_2.length c0_2) := (blk_cell BK101.out 2).trans rfl; have hcz10_3 : w7.cell? ⟨gb101, 3, none⟩ = some (.slice A0_3 l0_3.length c0_3) := (blk_cell BK101.out 3).trans rfl; have hcz10_4 : w7.cell? ⟨gb101, 4, none⟩ = some (.slice A0_4 l0_4.length c0_4) := (blk_cell BK101.out 4).trans rfl; have hcz10_5 : w7.cell? ⟨gb101, 5, none⟩ = some (.int .i64 a0_5) := (blk_cell BK101.out 5).trans rfl; have hcz10_6 : w7.cell? ⟨gb101, 6, none⟩ = some (.int .i64 a0_6) := (blk_cell BK101.out 6).trans rfl; have hfz10_0 := blk_frozen BK101.out 0; have hfz10_1 := blk_frozen BK101.out 1; have hfz10_2 := blk_frozen BK101.out 2; have hfz10_3 := blk_frozen BK101.out 3; have hfz10_4 := blk_frozen BK101.out 4; have hfz10_5 := blk_frozen BK101.out 5; have hfz10_6 := blk_frozen BK101.out 6) | ((with_reducible refine gate_builtin (b := .append) (xs := #[.tmp 6, .tmp 8]) rfl ?_); at_builtin; refine Kd.R_append_rows (Kd.int .i64) (w0 := w) w.heap.size rfl (.tmp 6) (.tmp 8) 23 3 (.int .i64 0) 8 rfl Try.underlying23 info3 rfl (by decide) (by omega) v104 y103 l0_0 _ _ _ (fun _ => True) (fun _ => False) rfl rfl ?aO ?aR (fun _ _ h => h) (fun _ h => h.elim) ?aF ?aB ?aS ?aL ?_; (case aR => repeat (first | exact (Kd.C_below HR0_0.out HB.out) | (with_reducible refine Kd.C_alloc ?_ _) | (with_reducible refine Kd.C_drewN ?_ _) | (with_reducible refine Kd.C_drew ?_))); (case aB => exact (by repeat (first | (with_reducible first | exact HB.out | apply below_alloc | apply pw_below_drewN | apply below_drew1 | refine below_set ?_ GE101.out | refine below_set ?_ GE102.out) | exact HB.out))); (case aF => exact (fun _ _ => trivial)); (case aO => exact (by (with_reducible repeat (first | apply Kd.R_alloc | apply Kd.R_drewN | apply Kd.R_drew)); exact HO105.out)); (case aS => exact (below_size (by repeat (first | (with_reducible first | exact HB.out | apply below_alloc | apply pw_below_drewN | apply below_drew1 | refine below_set ?_ GE101.out | refine below_set ?_ GE102.out) | exact HB.out)))); (case aL => have := LMc2.out; omega); intro v107 w11 ho hb hg hat; rw [← Ny106.out] at ho; have n0_ := Aside0.mk (blk_grown (g := gb101) (o := .cells #[.slice A0_0 l0_0.length c0_0, .int .i64 a0_1, .slice A0_2 l0_2.length c0_2, .slice A0_3 l0_3.length c0_3, .slice A0_4 l0_4.length c0_4, .int .i64 a0_5, .int .i64 a0_6] 28 (0, 0)) (by (with_reducible repeat (first | refine blk_drewN ?_ _ | refine blk_drew ?_ | refine blk_alloc ?_ _)); exact BK101.out) hg (Kd.R_ne HO105.out BK101.out (by decide))); have n1_ := Aside0.mk (blk_grown (g := gb102) (o := .cells #[.slice none 0 0, .int .i64 0, .slice none 0 0, .slice none 0 0, .slice none 0 0, .int .i64 0, .int .i64 0] 28 (0, 0)) (by (with_reducible repeat (first | refine blk_drewN ?_ _ | refine blk_drew ?_ | refine blk_alloc ?_ _)); exact BK102.out) hg (Kd.R_ne HO105.out BK102.out (by decide))); have n2_ := Aside0.mk (hb); have n3_ := Aside0.mk (ho); clear BK101; clear BK102; clear HB; clear HO105; have BK101 := n0_; have BK102 := n1_; have HB := n2_; have HO108 := n3_; clear n0_ n1_ n2_ n3_; clear ho hb hg hat; obtain ⟨Ao12, co12, eo12⟩ := Kd.R_slice HO108.out; subst eo12; have hcz13_0 : w11.cell? ⟨gb101, 0, none⟩ = some (.slice A0_0 l0_0.length c0_0) := (blk_cell BK101.out 0).trans rfl; have hcz13_1 : w11.cell? ⟨gb101, 1, none⟩ = some (.int .i64 a0_1) := (blk_cell BK101.out 1).trans rfl; have hcz13_2 : w11.cell? ⟨gb101, 2, none⟩ = some (.slice A0_2 l0_2.length c0_2) := (blk_cell BK101.out 2).trans rfl; have hcz13_3 : w11.cell? ⟨gb101, 3, none⟩ = some (.slice A0_3 l0_3.length c0_3) := (blk_cell BK101.out 3).trans rfl; have hcz13_4 : w11.cell? ⟨gb101, 4, none⟩ = some (.slice A0_4 l0_4.length c0_4) := (blk_cell BK101.out 4).trans rfl; have hcz13_5 : w11.cell? ⟨gb101, 5, none⟩ = some (.int .i64 a0_5) := (blk_cell BK101.out 5).trans rfl; have hcz13_6 : w11.cell? ⟨gb101, 6, none⟩ = some (.int .i64 a0_6) := (blk_cell BK101.out 6).trans rfl; have hfz13_0 := blk_frozen BK101.out 0; have hfz13_1 := blk_frozen BK101.out 1; have hfz13_2 := blk_frozen BK101.out 2; have hfz13_3 := blk_frozen BK101.out 3; have hfz13_4 := blk_frozen BK101.out 4; have hfz13_5 := blk_frozen BK101.out 5; have hfz13_6 := blk_frozen BK101.out 6) | ((with_reducible refine gate_dst (N := 11) rfl ?_); refine Kd.R_lit (Kd.int .i64) _ 3 ?hg (N := 11) ?hd (xs := ([] : List Int)) (inner := []) (ok := fun _ => True) (okp := fun _ => True) ?hr ?hp (fun _ hk => hk) trivial (Below.refl _ _) (Nat.le_refl _) (by simp) ?_; (case hd => rfl); (case hg => rfl); (case hr => first | (go_simp; done) | (go_simp; rfl)); (case hp => exact (Reps.none _ _)); intro v110 w14 ho15 hb hg_ hnew_; clear hg_ hnew_; (first | rw [← Ny109.out] at ho15 | (simp only [Int.reduceToNat] at ho15; rw [← Ny109.out] at ho15)); have n0_ := Aside0.mk (Kd.R_elder' (by (with_reducible repeat (first | apply Kd.R_alloc | apply Kd.R_drewN | apply Kd.R_drew)); exact (Kd.R_mono (Kd.R_far (p := ⟨gb101, 0, none⟩) (Kd.R_types HO108.out BK101.out (by decide)) (fun _ hk => hk.2) (.slice Ao12 y106.length co12)) (fun _ h_ => h_.1))) (Kd.R_base ho15) hb); have n1_ := Aside0.mk (Kd.R_lower (Kd.R_new' ho15 (Kd.R_lt (by (with_reducible repeat (first | apply Kd.R_alloc | apply Kd.R_drewN | apply Kd.R_drew)); exact (Kd.R_mono (Kd.R_far (p := ⟨gb101, 0, none⟩) (Kd.R_types HO108.out BK101.out (by decide)) (fun _ hk => hk.2) (.slice Ao12 y106.length co12)) (fun _ h_ => h_.1))))) (below_size (by repeat (first | (with_reducible first | exact HB.out | apply below_alloc | apply pw_below_drewN | apply below_drew1 | refine below_set ?_ GE101.out | refine below_set ?_ GE102.out) | exact HB.out)))); have n2_ := Aside0.mk (blk_below (g := gb101) (o := .cells #[.slice Ao12 y106.length co12, .int .i64 a0_1, .slice A0_2 l0_2.length c0_2, .slice A0_3 l0_3.length c0_3, .slice A0_4 l0_4.length c0_4, .int .i64 a0_5, .int .i64 a0_6] 28 (0, 0)) (by (with_reducible repeat (first | refine blk_drewN ?_ _ | refine blk_drew ?_ | refine blk_alloc ?_ _)); refine blk_put (cs := #[.slice A0_0 l0_0.length c0_0, .int .i64 a0_1, .slice A0_2 l0_2.length c0_2, .slice A0_3 l0_3.length c0_3, .slice A0_4 l0_4.length c0_4, .int .i64 a0_5, .int .i64 a0_6]) ?_ 0 _ rfl; (with_reducible repeat (first | refine blk_drewN ?_ _ | refine blk_drew ?_ | refine blk_alloc ?_ _)); exact BK101.out) hb); have n3_ := Aside0.mk (blk_below (g := gb102) (o := .cells #[.slice none 0 0, .int .i64 0, .slice none 0 0, .slice none 0 0, .slice none 0 0, .int .i64 0, .int .i64 0] 28 (0, 0)) (by (with_reducible repeat (first | refine blk_drewN ?_ _ | refine blk_drew ?_ | refine blk_alloc ?_ _)); refine blk_far ?_ NB102_101.out _; (with_reducible repeat (first | refine blk_drewN ?_ _ | refine blk_drew ?_ | refine blk_alloc ?_ _)); exact BK102.out) hb); have n4_ := Aside0.mk (below_step (by repeat (first | (with_reducible first | exact HB.out | apply below_alloc | apply pw_below_drewN | apply below_drew1 | refine below_set ?_ GE101.out | refine below_set ?_ GE102.out) | exact HB.out)) hb); clear HO108; clear BK101; clear BK102; clear HB; have HO108 := n0_; have HO111 := n1_; have BK101 := n2_; have BK102 := n3_; have HB := n4_; clear n0_ n1_ n2_ n3_ n4_; clear hb ho15; have hcz16_0 : w14.cell? ⟨gb101, 0, none⟩ = some (.slice Ao12 y106.length co12) := (blk_cell BK101.out 0).trans rfl; have hcz16_1 : w14.cell? ⟨gb101, 1, none⟩ = some (.int .i64 a0_1) := (blk_cell BK101.out 1).trans rfl; have hcz16_2 : w14.cell? ⟨gb101, 2, none⟩ = some (.slice A0_2 l0_2.length c0_2) := (blk_cell BK101.out 2).trans rfl; have hcz16_3 : w14.cell? ⟨gb101, 3, none⟩ = some (.slice A0_3 l0_3.length c0_3) := (blk_cell BK101.out 3).trans rfl; have hcz16_4 : w14.cell? ⟨gb101, 4, none⟩ = some (.slice A0_4 l0_4.length c0_4) := (blk_cell BK101.out 4).trans rfl; have hcz16_5 : w14.cell? ⟨gb101, 5, none⟩ = some (.int .i64 a0_5) := (blk_cell BK101.out 5).trans rfl; have hcz16_6 : w14.cell? ⟨gb101, 6, none⟩ = some (.int .i64 a0_6) := (blk_cell BK101.out 6).trans rfl; have hfz16_0 := blk_frozen BK101.out 0; have hfz16_1 := blk_frozen BK101.out 1; have hfz16_2 := blk_frozen BK101.out 2; have hfz16_3 := blk_frozen BK101.out 3; have hfz16_4 := blk_frozen BK101.out 4; have hfz16_5 := blk_frozen BK101.out 5; have hfz16_6 := blk_frozen BK101.out 6) | ((with_reducible refine gate_builtin (b := .append) (xs := #[.tmp 11, .tmp 13]) rfl ?_); at_builtin; refine Kd.R_append_rows (Kd.int .i64) (w0 := w) w.heap.size rfl (.tmp 11) (.tmp 13) 23 3 (.int .i64 0) 8 rfl Try.underlying23 info3 rfl (by decide) (by omega) v110 y109 l0_2 _ _ _ (fun k_ => some k_ ≠ (.slice Ao12 y106.length co12 : Value).ownBlock) (fun _ => False) rfl rfl ?aO ?aR (fun _ _ h => h) (fun _ h => h.elim) ?aF ?aB ?aS ?aL ?_; (case aR => repeat (first | exact (Kd.C_below HR0_2.out HB.out) | (with_reducible refine Kd.C_alloc ?_ _) | (with_reducible refine Kd.C_drewN ?_ _) | (with_reducible refine Kd.C_drew ?_))); (case aB => exact (by repeat (first | (with_reducible first | exact HB.out | apply below_alloc | apply pw_below_drewN | apply below_drew1 | refine below_set ?_ GE101.out | refine below_set ?_ GE102.out) | exact HB.out))); (case aF => exact (fun k_ hk => Kd.fresh' (Kd.R_lt (by (with_reducible repeat (first | apply Kd.R_alloc | apply Kd.R_drewN | apply Kd.R_drew)); exact HO108.out)) k_ hk)); (case aO => exact (by (with_reducible repeat (first | apply Kd.R_alloc | apply Kd.R_drewN | apply Kd.R_drew)); exact Kd.R_mono HO111.out (fun _ hk => hk.2))); (case aS => exact (below_size (by repeat (first | (with_reducible first | exact HB.out | apply below_alloc | apply pw_below_drewN | apply below_drew1 | refine below_set ?_ GE101.out | refine below_set ?_ GE102.out) | exact HB.out)))); (case aL => have := LMc3.out; omega); intro v113 w17 ho hb hg hat; rw [← Ny112.out] at ho; have n0_ := Aside0.mk (blk_grown (g := gb101) (o := .cells #[.slice Ao12 y106.length co12, .int .i64 a0_1, .slice A0_2 l0_2.length c0_2, .slice A0_3 l0_3.length c0_3, .slice A0_4 l0_4.length c0_4, .int .i64 a0_5, .int .i64 a0_6] 28 (0, 0)) (by (with_reducible repeat (first | refine blk_drewN ?_ _ | refine blk_drew ?_ | refine blk_alloc ?_ _)); exact BK101.out) hg (Kd.R_ne HO111.out BK101.out (by decide))); have n1_ := Aside0.mk (blk_grown (g := gb102) (o := .cells #[.slice none 0 0, .int .i64 0, .slice none 0 0, .slice none 0 0, .slice none 0 0, .int .i64 0, .int .i64 0] 28 (0, 0)) (by (with_reducible repeat (first | refine blk_drewN ?_ _ | refine blk_drew ?_ | refine blk_alloc ?_ _)); exact BK102.out) hg (Kd.R_ne HO111.out BK102.out (by decide))); have n2_ := Aside0.mk (Kd.R_after (ok := (fun _ => True)) (by (with_reducible repeat (first | apply Kd.R_alloc | apply Kd.R_drewN | apply Kd.R_drew)); exact HO108.out) hg hat); have n3_ := Aside0.mk (hb); have n4_ := Aside0.mk (ho); clear BK101; clear BK102; clear HO108; clear HB; clear HO111; have BK101 := n0_; have BK102 := n1_; have HO108 := n2_; have HB := n3_; have HO114 := n4_; clear n0_ n1_ n2_ n3_ n4_; clear ho hb hg hat; obtain ⟨Ao18, co18, eo18⟩ := Kd.R_slice HO114.out; subst eo18; have hcz19_0 : w17.cell? ⟨gb101, 0, none⟩ = some (.slice Ao12 y106.length co12) := (blk_cell BK101.out 0).trans rfl; have hcz19_1 : w17.cell? ⟨gb101, 1, none⟩ = some (.int .i64 a0_1) := (blk_cell BK101.out 1).trans rfl; have hcz19_2 : w17.cell? ⟨gb101, 2, none⟩ = some (.slice A0_2 l0_2.length c0_2) := (blk_cell BK101.out 2).trans rfl; have hcz19_3 : w17.cell? ⟨gb101, 3, none⟩ = some (.slice A0_3 l0_3.length c0_3) := (blk_cell BK101.out 3).trans rfl; have hcz19_4 : w17.cell? ⟨gb101, 4, none⟩ = some (.slice A0_4 l0_4.length c0_4) := (blk_cell BK101.out 4).trans rfl; have hcz19_5 : w17.cell? ⟨gb101, 5, none⟩ = some (.int .i64 a0_5) := (blk_cell BK101.out 5).trans rfl; have hcz19_6 : w17.cell? ⟨gb101, 6, none⟩ = some (.int .i64 a0_6) := (blk_cell BK101.out 6).trans rfl; have hfz19_0 := blk_frozen BK101.out 0; have hfz19_1 := blk_frozen BK101.out 1; have hfz19_2 := blk_frozen BK101.out 2; have hfz19_3 := blk_frozen BK101.out 3; have hfz19_4 := blk_frozen BK101.out 4; have hfz19_5 := blk_frozen BK101.out 5; have hfz19_6 := blk_frozen BK101.out 6) | ((with_reducible refine gate_dst (N := 16) rfl ?_); refine Kd.R_lit (Kd.int .i64) _ 3 ?hg (N := 16) ?hd (xs := ([] : List Int)) (inner := []) (ok := fun _ => True) (okp := fun _ => True) ?hr ?hp (fun _ hk => hk) trivial (Below.refl _ _) (Nat.le_refl _) (by simp) ?_; (case hd => rfl); (case hg => rfl); (case hr => first | (go_simp; done) | (go_simp; rfl)); (case hp => exact (Reps.none _ _)); intro v116 w20 ho21 hb hg_ hnew_; clear hg_ hnew_; (first | rw [← Ny115.out] at ho21 | (simp only [Int.reduceToNat] at ho21; rw [← Ny115.out] at ho21)); have n0_ := Aside0.mk (Kd.R_elder' (by (with_reducible repeat (first | apply Kd.R_alloc | apply Kd.R_drewN | apply Kd.R_drew)); exact (Kd.R_mono (Kd.R_far (p := ⟨gb101, 2, none⟩) (Kd.R_types HO108.out BK101.out (by decide)) (fun _ hk => hk.2) (.slice Ao18 y112.length co18)) (fun _ h_ => h_.1))) (Kd.R_base ho21) hb); have n1_ := Aside0.mk (Kd.R_elder' (by (with_reducible repeat (first | apply Kd.R_alloc | apply Kd.R_drewN | apply Kd.R_drew)); exact (Kd.R_mono (Kd.R_far (p := ⟨gb101, 2, none⟩) (Kd.R_types HO114.out BK101.out (by decide)) (fun _ hk => hk.2) (.slice Ao18 y112.length co18)) (fun _ h_ => h_.1))) (Kd.R_base ho21) hb); have n2_ := Aside0.mk (Kd.R_lower (Kd.R_new' (Kd.R_new' ho21 (Kd.R_lt (by (with_reducible repeat (first | apply Kd.R_alloc | apply Kd.R_drewN | apply Kd.R_drew)); exact (Kd.R_mono (Kd.R_far (p := ⟨gb101, 2, none⟩) (Kd.R_types HO108.out BK101.out (by decide)) (fun _ hk => hk.2) (.slice Ao18 y112.length co18)) (fun _ h_ => h_.1))))) (Kd.R_lt (by (with_reducible repeat (first | apply Kd.R_alloc | apply Kd.R_drewN | apply Kd.R_drew)); exact (Kd.R_mono (Kd.R_far (p := ⟨gb101, 2, none⟩) (Kd.R_types HO114.out BK101.out (by decide)) (fun _ hk => hk.2) (.slice Ao18 y112.length co18)) (fun _ h_ => h_.1))))) (below_size (by repeat (first | (with_reducible first | exact HB.out | apply below_alloc | apply pw_below_drewN | apply below_drew1 | refine below_set ?_ GE101.out | refine below_set ?_ GE102.out) | exact HB.out)))); have n3_ := Aside0.mk (blk_below (g := gb101) (o := .cells #[.slice Ao12 y106.length co12, .int .i64 a0_1, .slice Ao18 y112.length co18, .slice A0_3 l0_3.length c0_3, .slice A0_4 l0_4.length c0_4, .int .i64 a0_5, .int .i64 a0_6] 28 (0, 0)) (by (with_reducible repeat (first | refine blk_drewN ?_ _ | refine blk_drew ?_ | refine blk_alloc ?_ _)); refine blk_put (cs := #[.slice Ao12 y106.length co12, .int .i64 a0_1, .slice A0_2 l0_2.length c0_2, .slice A0_3 l0_3.length c0_3, .slice A0_4 l0_4.length c0_4, .int .i64 a0_5, .int .i64 a0_6]) ?_ 2 _ rfl; (with_reducible repeat (first | refine blk_drewN ?_ _ | refine blk_drew ?_ | refine blk_alloc ?_ _)); exact BK101.out) hb); have n4_ := Aside0.mk (blk_below (g := gb102) (o := .cells #[.slice none 0 0, .int .i64 0, .slice none 0 0, .slice none 0 0, .slice none 0 0, .int .i64 0, .int .i64 0] 28 (0, 0)) (by (with_reducible repeat (first | refine blk_drewN ?_ _ | refine blk_drew ?_ | refine blk_alloc ?_ _)); refine blk_far ?_ NB102_101.out _; (with_reducible repeat (first | refine blk_drewN ?_ _ | refine blk_drew ?_ | refine blk_alloc ?_ _)); exact BK102.out) hb); have n5_ := Aside0.mk (below_step (by repeat (first | (with_reducible first | exact HB.out | apply below_alloc | apply pw_below_drewN | apply below_drew1 | refine below_set ?_ GE101.out | refine below_set ?_ GE102.out) | exact HB.out)) hb); clear HO108; clear HO114; clear BK101; clear BK102; clear HB; have HO108 := n0_; have HO114 := n1_; have HO117 := n2_; have BK101 := n3_; have BK102 := n4_; have HB := n5_; clear n0_ n1_ n2_ n3_ n4_ n5_; clear hb ho21; have hcz22_0 : w20.cell? ⟨gb101, 0, none⟩ = some (.slice Ao12 y106.length co12) := (blk_cell BK101.out 0).trans rfl; have hcz22_1 : w20.cell? ⟨gb101, 1, none⟩ = some (.int .i64 a0_1) := (blk_cell BK101.out 1).trans rfl; have hcz22_2 : w20.cell? ⟨gb101, 2, none⟩ = some (.slice Ao18 y112.length co18) := (blk_cell BK101.out 2).trans rfl; have hcz22_3 : w20.cell? ⟨gb101, 3, none⟩ = some (.slice A0_3 l0_3.length c0_3) := (blk_cell BK101.out 3).trans rfl; have hcz22_4 : w20.cell? ⟨gb101, 4, none⟩ = some (.slice A0_4 l0_4.length c0_4) := (blk_cell BK101.out 4).trans rfl; have hcz22_5 : w20.cell? ⟨gb101, 5, none⟩ = some (.int .i64 a0_5) := (blk_cell BK101.out 5).trans rfl; have hcz22_6 : w20.cell? ⟨gb101, 6, none⟩ = some (.int .i64 a0_6) := (blk_cell BK101.out 6).trans rfl; have hfz22_0 := blk_frozen BK101.out 0; have hfz22_1 := blk_frozen BK101.out 1; have hfz22_2 := blk_frozen BK101.out 2; have hfz22_3 := blk_frozen BK101.out 3; have hfz22_4 := blk_frozen BK101.out 4; have hfz22_5 := blk_frozen BK101.out 5; have hfz22_6 := blk_frozen BK101.out 6) | ((with_reducible refine gate_builtin (b := .append) (xs := #[.tmp 16, .tmp 18]) rfl ?_); at_builtin; refine Kd.R_append_rows (Kd.int .i64) (w0 := w) w.heap.size rfl (.tmp 16) (.tmp 18) 23 3 (.int .i64 0) 8 rfl Try.underlying23 info3 rfl (by decide) (by omega) v116 y115 l0_4 _ _ _ (fun k_ => some k_ ≠ (.slice Ao12 y106.length co12 : Value).ownBlock ∧ some k_ ≠ (.slice Ao18 y112.length co18 : Value).ownBlock) (fun _ => False) rfl rfl ?aO ?aR (fun _ _ h => h) (fun _ h => h.elim) ?aF ?aB ?aS ?aL ?_; (case aR => repeat (first | exact (Kd.C_below HR0_4.out HB.out) | (with_reducible refine Kd.C_alloc ?_ _) | (with_reducible refine Kd.C_drewN ?_ _) | (with_reducible refine Kd.C_drew ?_))); (case aB => exact (by repeat (first | (with_reducible first | exact HB.out | apply below_alloc | apply pw_below_drewN | apply below_drew1 | refine below_set ?_ GE101.out | refine below_set ?_ GE102.out) | exact HB.out))); (case aF => exact (fun k_ hk => ⟨Kd.fresh' (Kd.R_lt (by (with_reducible repeat (first | apply Kd.R_alloc | apply Kd.R_drewN | apply Kd.R_drew)); exact HO108.out)) k_ hk, Kd.fresh' (Kd.R_lt (by (with_reducible repeat (first | apply Kd.R_alloc | apply Kd.R_drewN | apply Kd.R_drew)); exact HO114.out)) k_ hk⟩)); (case aO => exact (by (with_reducible repeat (first | apply Kd.R_alloc | apply Kd.R_drewN | apply Kd.R_drew)); exact Kd.R_mono HO117.out (fun _ hk => ⟨hk.1.2, hk.2⟩))); (case aS => exact (below_size (by repeat (first | (with_reducible first | exact HB.out | apply below_alloc | apply pw_below_drewN | apply below_drew1 | refine below_set ?_ GE101.out | refine below_set ?_ GE102.out) | exact HB.out)))); (case aL => have := LMc4.out; omega); intro v119 w23 ho hb hg hat; rw [← Ny118.out] at ho; have n0_ := Aside0.mk (blk_grown (g := gb101) (o := .cells #[.slice Ao12 y106.length co12, .int .i64 a0_1, .slice Ao18 y112.length co18, .slice A0_3 l0_3.length c0_3, .slice A0_4 l0_4.length c0_4, .int .i64 a0_5, .int .i64 a0_6] 28 (0, 0)) (by (with_reducible repeat (first | refine blk_drewN ?_ _ | refine blk_drew ?_ | refine blk_alloc ?_ _)); exact BK101.out) hg (Kd.R_ne HO117.out BK101.out (by decide))); have n1_ := Aside0.mk (blk_grown (g := gb102) (o := .cells #[.slice none 0 0, .int .i64 0, .slice none 0 0, .slice none 0 0, .slice none 0 0, .int .i64 0, .int .i64 0] 28 (0, 0)) (by (with_reducible repeat (first | refine blk_drewN ?_ _ | refine blk_drew ?_ | refine blk_alloc ?_ _)); exact BK102.out) hg (Kd.R_ne HO117.out BK102.out (by decide))); have n2_ := Aside0.mk (Kd.R_after (ok := (fun k_ => some k_ ≠ (.slice Ao18 y112.length co18 : Value).ownBlock)) (by (with_reducible repeat (first | apply Kd.R_alloc | apply Kd.R_drewN | apply Kd.R_drew)); exact Kd.R_mono HO108.out (fun _ hk => ⟨hk.1.2, hk.2⟩)) hg hat); have n3_ := Aside0.mk (Kd.R_after (ok := (fun k_ => some k_ ≠ (.slice Ao12 y106.length co12 : Value).ownBlock)) (by (with_reducible repeat (first | apply Kd.R_alloc | apply Kd.R_drewN | apply Kd.R_drew)); exact HO114.out) hg hat); have n4_ := Aside0.mk (hb); have n5_ := Aside0.mk (ho); clear BK101; clear BK102; clear HO108; clear HO114; clear HB; clear HO117; have BK101 := n0_; have BK102 := n1_; have HO108 := n2_; have HO114 := n3_; have HB := n4_; have HO120 := n5_; clear n0_ n1_ n2_ n3_ n4_ n5_; clear ho hb hg hat; obtain ⟨Ao24, co24, eo24⟩ := Kd.R_slice HO120.out; subst eo24; have hcz25_0 : w23.cell? ⟨gb101, 0, none⟩ = some (.slice Ao12 y106.length co12) := (blk_cell BK101.out 0).trans rfl; have hcz25_1 : w23.cell? ⟨gb101, 1, none⟩ = some (.int .i64 a0_1) := (blk_cell BK101.out 1).trans rfl; have hcz25_2 : w23.cell? ⟨gb101, 2, none⟩ = some (.slice Ao18 y112.length co18) := (blk_cell BK101.out 2).trans rfl; have hcz25_3 : w23.cell? ⟨gb101, 3, none⟩ = some (.slice A0_3 l0_3.length c0_3) := (blk_cell BK101.out 3).trans rfl; have hcz25_4 : w23.cell? ⟨gb101, 4, none⟩ = some (.slice A0_4 l0_4.length c0_4) := (blk_cell BK101.out 4).trans rfl; have hcz25_5 : w23.cell? ⟨gb101, 5, none⟩ = some (.int .i64 a0_5) := (blk_cell BK101.out 5).trans rfl; have hcz25_6 : w23.cell? ⟨gb101, 6, none⟩ = some (.int .i64 a0_6) := (blk_cell BK101.out 6).trans rfl; have hfz25_0 := blk_frozen BK101.out 0; have hfz25_1 := blk_frozen BK101.out 1; have hfz25_2 := blk_frozen BK101.out 2; have hfz25_3 := blk_frozen BK101.out 3; have hfz25_4 := blk_frozen BK101.out 4; have hfz25_5 := blk_frozen BK101.out 5; have hfz25_6 := blk_frozen BK101.out 6))
    go_loopg [3, 24] k (fun kq v3 v24 w' => ∃ (x3_1 : List (S68)) (x24_1 : Int), v24 = .int .i64 x24_1 ∧ Aside0 (spec_l16Own.l0 kq x3_1 l0_3 (l0_3.length : Int) x24_1 y106 a0_1 y112 l0_3 y118 a0_5 a0_6 = some (r1, r2, r3, r4, r5, r6, r7)) ∧ Aside0 (kq ≤ k) ∧ Aside0 (Kd.S k68 68 w' w.heap.size (fun k_ => some k_ ≠ ((.slice Ao12 y106.length co12) : Value).ownBlock ∧ some k_ ≠ ((.slice Ao18 y112.length co18) : Value).ownBlock ∧ some k_ ≠ ((.slice Ao24 y118.length co24) : Value).ownBlock) v3 x3_1) ∧ Aside0 (Kd.R (Kd.int .i64) 3 w' w.heap.size (fun k_ => some k_ ≠ ((.slice Ao18 y112.length co18) : Value).ownBlock ∧ some k_ ≠ ((.slice Ao24 y118.length co24) : Value).ownBlock) (.slice Ao12 y106.length co12) y106) ∧ Aside0 (Kd.R (Kd.int .i64) 3 w' w.heap.size (fun k_ => some k_ ≠ ((.slice Ao12 y106.length co12) : Value).ownBlock ∧ some k_ ≠ ((.slice Ao24 y118.length co24) : Value).ownBlock) (.slice Ao18 y112.length co18) y112) ∧ Aside0 (Kd.R (Kd.int .i64) 3 w' w.heap.size (fun k_ => some k_ ≠ ((.slice Ao12 y106.length co12) : Value).ownBlock ∧ some k_ ≠ ((.slice Ao18 y112.length co18) : Value).ownBlock) (.slice Ao24 y118.length co24) y118) ∧ Aside0 (w'.heap[gb101]? = some (.cells #[(.slice Ao12 y106.length co12), .int .i64 a0_1, (.slice Ao18 y112.length co18), (.slice A0_3 l0_3.length c0_3), (.slice Ao24 y118.length co24), .int .i64 a0_5, .int .i64 a0_6] 28 (0, 0))) ∧ Aside0 (w'.heap[gb102]? = some (.cells #[(.slice none 0 0), .int .i64 0, (.slice none 0 0), (.slice none 0 0), (.slice none 0 0), .int .i64 0, .int .i64 0] 28 (0, 0))) ∧ Aside0 (Below w.heap.size w w'))
    case atStart => exact ⟨(([] : List (S68))), (0), (by first | rfl | (simp; done) | (simp [*]; done)), H', ⟨Nat.le_refl _⟩, ⟨by first | exact Kd.S_nil _ _ _ _ _ | exact Kd.N_nil _ _ _ _ _ | exact Kd.V_nil _ _ _ _ _ | exact Kd.Q_nil _ _ _ _ _ | exact Kd.R_nil _ _ _ _ _⟩, ⟨by (with_reducible repeat (first | apply Kd.R_alloc | apply Kd.R_drewN | apply Kd.R_drew)); exact Kd.R_mono (Kd.R_far (p := ⟨gb101, 4, none⟩) (Kd.R_types HO108.out BK101.out (by decide)) (fun _ hk => hk.2) (.slice Ao24 y118.length co24)) (fun _ hk => ⟨hk.1.1, hk.1.2⟩)⟩, ⟨by (with_reducible repeat (first | apply Kd.R_alloc | apply Kd.R_drewN | apply Kd.R_drew)); exact Kd.R_mono (Kd.R_far (p := ⟨gb101, 4, none⟩) (Kd.R_types HO114.out BK101.out (by decide)) (fun _ hk => hk.2) (.slice Ao24 y118.length co24)) (fun _ hk => ⟨hk.1.1, hk.1.2⟩)⟩, ⟨by (with_reducible repeat (first | apply Kd.R_alloc | apply Kd.R_drewN | apply Kd.R_drew)); exact Kd.R_mono (Kd.R_far (p := ⟨gb101, 4, none⟩) (Kd.R_types HO120.out BK101.out (by decide)) (fun _ hk => hk.2) (.slice Ao24 y118.length co24)) (fun _ hk => ⟨hk.1.1, hk.1.2⟩)⟩, ⟨by (with_reducible repeat (first | refine blk_drewN ?_ _ | refine blk_drew ?_ | refine blk_alloc ?_ _)); refine blk_put (cs := #[.slice Ao12 y106.length co12, .int .i64 a0_1, .slice Ao18 y112.length co18, .slice A0_3 l0_3.length c0_3, .slice A0_4 l0_4.length c0_4, .int .i64 a0_5, .int .i64 a0_6]) ?_ 4 _ rfl; (with_reducible repeat (first | refine blk_drewN ?_ _ | refine blk_drew ?_ | refine blk_alloc ?_ _)); exact BK101.out⟩, ⟨by (with_reducible repeat (first | refine blk_drewN ?_ _ | refine blk_drew ?_ | refine blk_alloc ?_ _)); refine blk_far ?_ NB102_101.out _; (with_reducible repeat (first | refine blk_drewN ?_ _ | refine blk_drew ?_ | refine blk_alloc ?_ _)); exact BK102.out⟩, ⟨by repeat (first | (with_reducible first | exact HB.out | apply below_alloc | apply pw_below_drewN | apply below_drew1 | refine below_set ?_ GE101.out | refine below_set ?_ GE102.out) | exact HB.out)⟩⟩
    case round =>
     clear H'
     try clear c2
     try clear p2
     try clear c3
     try clear c4
     try clear c9
     try clear hcz10_0
     try clear hcz10_1
     try clear hcz10_2
     try clear hcz10_3
     try clear hcz10_4
     try clear hcz10_5
     try clear hcz10_6
     try clear hcz13_0
     try clear hcz13_1
     try clear hcz13_2
     try clear hcz13_3
     try clear hcz13_4
     try clear hcz13_5
     try clear hcz13_6
     try clear hcz16_0
     try clear hcz16_1
     try clear hcz16_2
     try clear hcz16_3
     try clear hcz16_4
     try clear hcz16_5
     try clear hcz16_6
     try clear hcz19_0
     try clear hcz19_1
     try clear hcz19_2
     try clear hcz19_3
     try clear hcz19_4
     try clear hcz19_5
     try clear hcz19_6
     try clear hcz22_0
     try clear hcz22_1
     try clear hcz22_2
     try clear hcz22_3
     try clear hcz22_4
     try clear hcz22_5
     try clear hcz22_6
     try clear hcz25_0
     try clear hcz25_1
     try clear hcz25_2
     try clear hcz25_3
     try clear hcz25_4
     try clear hcz25_5
     try clear hcz25_6
     try clear hfz10_0
     try clear hfz10_1
     try clear hfz10_2
     try clear hfz10_3
     try clear hfz10_4
     try clear hfz10_5
     try clear hfz10_6
     try clear hfz13_0
     try clear hfz13_1
     try clear hfz13_2
     try clear hfz13_3
     try clear hfz13_4
     try clear hfz13_5
     try clear hfz13_6
     try clear hfz16_0
     try clear hfz16_1
     try clear hfz16_2
     try clear hfz16_3
     try clear hfz16_4
     try clear hfz16_5
     try clear hfz16_6
     try clear hfz19_0
     try clear hfz19_1
     try clear hfz19_2
     try clear hfz19_3
     try clear hfz19_4
     try clear hfz19_5
     try clear hfz19_6
     try clear hfz22_0
     try clear hfz22_1
     try clear hfz22_2
     try clear hfz22_3
     try clear hfz22_4
     try clear hfz22_5
     try clear hfz22_6
     try clear hfz25_0
     try clear hfz25_1
     try clear hfz25_2
     try clear hfz25_3
     try clear hfz25_4
     try clear hfz25_5
     try clear hfz25_6
     obtain ⟨x3_1, x24_1, rfl, HA, HK1, HO_3, HO_102000, HO_102002, HO_102004, BK101, BK102, HB⟩ := hrel
     cases gk with
     | zero => exact absurd HA.out (by simp [spec_l16Own.l0])
     | succ k1 =>
      have H := HA.out
      clear HA
      simp only [spec_l16Own.l0] at H
      by_cases c26 : x24_1 < (l0_3.length : Int)
      ·rw [if_pos c26] at H
       have c26b0 : decide (x24_1 < (l0_3.length : Int)) = true := decide_eq_true c26
       clear c26
       by_cases c27 : 0 ≤ x24_1
       ·rw [if_pos c27] at H
        have c27b0 : decide (0 ≤ x24_1) = true := decide_eq_true c27
        clear c27
        by_cases c28 : x24_1 < (l0_3.length : Int)
        ·rw [if_pos c28] at H
         have c28b0 : decide (x24_1 < (l0_3.length : Int)) = true := decide_eq_true c28
         clear c28
         obtain ⟨y123, hy123⟩ : ∃ y_ : List Int, y_ = (([] : List Int)) := ⟨_, rfl⟩
         replace H : (if y123.length + ((rd_T68 l0_3 x24_1).f2).length < 17592186044416 then (if x3_1.length < 3518437208883 then (spec_l16Own.l0 k1 (x3_1 ++ [(⟨(rd_T68 l0_3 x24_1).f0, (rd_T68 l0_3 x24_1).f1, (y123 ++ ((rd_T68 l0_3 x24_1).f2))⟩ : S68)]) l0_3 (l0_3.length : Int) (wrap64 (x24_1 + 1)) y106 a0_1 y112 l0_3 y118 a0_5 a0_6) else (none)) else (none)) = some (r1, r2, r3, r4, r5, r6, r7) := by first | (rw [hy123]; with_reducible exact H) | (have H2_ := (Option.bind_some _ _).symm.trans H; rw [hy123]; with_reducible exact H2_) | (have H2_ := (Option.bind_some _ _).symm.trans H; with_reducible exact H2_) | with_reducible exact H | (rw [hy123]; exact H) | exact H
         have Ny123 := Aside0.mk hy123
         clear hy123
         by_cases c29 : y123.length + ((rd_T68 l0_3 x24_1).f2).length < 17592186044416
         ·rw [if_pos c29] at H
          have LMc29 := Aside0.mk c29
          clear c29
          obtain ⟨y126, hy126⟩ : ∃ y_ : List Int, y_ = (y123 ++ ((rd_T68 l0_3 x24_1).f2)) := ⟨_, rfl⟩
          replace H : (if x3_1.length < 3518437208883 then (spec_l16Own.l0 k1 (x3_1 ++ [(⟨(rd_T68 l0_3 x24_1).f0, (rd_T68 l0_3 x24_1).f1, y126⟩ : S68)]) l0_3 (l0_3.length : Int) (wrap64 (x24_1 + 1)) y106 a0_1 y112 l0_3 y118 a0_5 a0_6) else (none)) = some (r1, r2, r3, r4, r5, r6, r7) := by first | (rw [hy126]; with_reducible exact H) | (have H2_ := (Option.bind_some _ _).symm.trans H; rw [hy126]; with_reducible exact H2_) | (have H2_ := (Option.bind_some _ _).symm.trans H; with_reducible exact H2_) | with_reducible exact H | (rw [hy126]; exact H) | exact H
          have Ny126 := Aside0.mk hy126
          clear hy126
          by_cases c30 : x3_1.length < 3518437208883
          ·rw [if_pos c30] at H
           have LMc30 := Aside0.mk c30
           clear c30
           obtain ⟨y129, hy129⟩ : ∃ y_ : List (S68), y_ = (x3_1 ++ [(⟨(rd_T68 l0_3 x24_1).f0, (rd_T68 l0_3 x24_1).f1, y126⟩ : S68)]) := ⟨_, rfl⟩
           replace H : (spec_l16Own.l0 k1 y129 l0_3 (l0_3.length : Int) (wrap64 (x24_1 + 1)) y106 a0_1 y112 l0_3 y118 a0_5 a0_6) = some (r1, r2, r3, r4, r5, r6, r7) := by first | (rw [hy129]; with_reducible exact H) | (have H2_ := (Option.bind_some _ _).symm.trans H; rw [hy129]; with_reducible exact H2_) | (have H2_ := (Option.bind_some _ _).symm.trans H; with_reducible exact H2_) | with_reducible exact H | (rw [hy129]; exact H) | exact H
           have Ny129 := Aside0.mk hy129
           clear hy129
           have H' := Aside0.mk H
           clear H
           have p121 : 0 ≤ (x24_1 : Int) := of_decide_eq_true (by first | (with_reducible assumption) | assumption)
           have q121 : x24_1 < (l0_3.length : Int) := of_decide_eq_true (by first | (with_reducible assumption) | assumption)
           obtain ⟨ad121, A121_2, c121_2, e121, hx121_0, hx121_1, hx121_2, hl121_2, hi121_2⟩ := at_T68 HR0_3.out x24_1 p121 q121
           cases e121
           replace hx121_0 := (HB.out.cell (World.block_lt_of_cell? w _ hx121_0)).trans hx121_0
           replace hx121_1 := (HB.out.cell (World.block_lt_of_cell? w _ hx121_1)).trans hx121_1
           replace hx121_2 := (HB.out.cell (World.block_lt_of_cell? w _ hx121_2)).trans hx121_2
           have HR121_2 := Aside0.mk hi121_2
           have HC121_2 := Aside0.mk hl121_2
           clear hi121_2 hl121_2
           replace p121 := eq_true p121
           replace q121 := eq_true q121
           try go_wp2_with (first | ((with_reducible refine gate_dst (N := 5) rfl ?_); refine box_event ?hg (N := 5) ?hd (cs := #[.int .i64 0, .int .i64 0, .slice none 0 0]) (t := 68) ?hr ?_; (case hd => rfl); (case hg => rfl); (case hr => first | (go_simp; done) | (go_simp; rfl)); intro gb122 hg w31 hbox hb; have n0_ := Aside0.mk (Kd.S_below (Kd.S_elderB (by (with_reducible repeat (first | apply Kd.S_alloc | apply Kd.S_drewN | apply Kd.S_drew)); exact HO_3.out) gb122 (Nat.le_of_eq hg.symm)) hb); have n1_ := Aside0.mk (Kd.R_below (by (with_reducible repeat (first | apply Kd.R_alloc | apply Kd.R_drewN | apply Kd.R_drew)); exact HO_102000.out) hb); have n2_ := Aside0.mk (Kd.R_below (by (with_reducible repeat (first | apply Kd.R_alloc | apply Kd.R_drewN | apply Kd.R_drew)); exact HO_102002.out) hb); have n3_ := Aside0.mk (Kd.R_below (by (with_reducible repeat (first | apply Kd.R_alloc | apply Kd.R_drewN | apply Kd.R_drew)); exact HO_102004.out) hb); have n4_ := Aside0.mk (blk_below (g := gb101) (o := .cells #[.slice Ao12 y106.length co12, .int .i64 a0_1, .slice Ao18 y112.length co18, .slice (some ad121) l0_3.length c0_3, .slice Ao24 y118.length co24, .int .i64 a0_5, .int .i64 a0_6] 28 (0, 0)) (by (with_reducible repeat (first | refine blk_drewN ?_ _ | refine blk_drew ?_ | refine blk_alloc ?_ _)); exact BK101.out) hb); have n5_ := Aside0.mk (blk_below (g := gb102) (o := .cells #[.slice none 0 0, .int .i64 0, .slice none 0 0, .slice none 0 0, .slice none 0 0, .int .i64 0, .int .i64 0] 28 (0, 0)) (by (with_reducible repeat (first | refine blk_drewN ?_ _ | refine blk_drew ?_ | refine blk_alloc ?_ _)); exact BK102.out) hb); have n6_ := Aside0.mk (below_step (by repeat (first | (with_reducible first | exact HB.out | apply below_alloc | apply pw_below_drewN | apply below_drew1 | refine below_set ?_ GE101.out | refine below_set ?_ GE102.out) | exact HB.out)) hb); have n7_ := Aside0.mk (hbox); have n8_ := Aside0.mk ((by rw [hg]; exact (below_size (by repeat (first | (with_reducible first | exact HB.out | apply below_alloc | apply pw_below_drewN | apply below_drew1 | refine below_set ?_ GE101.out | refine below_set ?_ GE102.out) | exact HB.out))) : w.heap.size ≤ gb122)); have n9_ := Aside0.mk ((by rw [hg]; exact (below_size (by repeat (first | (with_reducible first | exact HB.out | apply below_alloc | apply pw_below_drewN | apply below_drew1 | refine below_set ?_ GE101.out | refine below_set ?_ GE102.out) | exact HB.out))) : w.heap.size ≤ gb122)); have n10_ := Aside0.mk ((by rw [hg]; exact Nat.ne_of_lt (blk_lt (g := gb101) (o := .cells #[.slice Ao12 y106.length co12, .int .i64 a0_1, .slice Ao18 y112.length co18, .slice (some ad121) l0_3.length c0_3, .slice Ao24 y118.length co24, .int .i64 a0_5, .int .i64 a0_6] 28 (0, 0)) (by (with_reducible repeat (first | refine blk_drewN ?_ _ | refine blk_drew ?_ | refine blk_alloc ?_ _)); exact BK101.out)) : gb101 ≠ gb122)); have n11_ := Aside0.mk ((by rw [hg]; exact Nat.ne_of_gt (blk_lt (g := gb101) (o := .cells #[.slice Ao12 y106.length co12, .int .i64 a0_1, .slice Ao18 y112.length co18, .slice (some ad121) l0_3.length c0_3, .slice Ao24 y118.length co24, .int .i64 a0_5, .int .i64 a0_6] 28 (0, 0)) (by (with_reducible repeat (first | refine blk_drewN ?_ _ | refine blk_drew ?_ | refine blk_alloc ?_ _)); exact BK101.out)) : gb122 ≠ gb101)); have n12_ := Aside0.mk ((by rw [hg]; exact Nat.ne_of_lt (blk_lt (g := gb102) (o := .cells #[.slice none 0 0, .int .i64 0, .slice none 0 0, .slice none 0 0, .slice none 0 0, .int .i64 0, .int .i64 0] 28 (0, 0)) (by (with_reducible repeat (first | refine blk_drewN ?_ _ | refine blk_drew ?_ | refine blk_alloc ?_ _)); exact BK102.out)) : gb102 ≠ gb122)); have n13_ := Aside0.mk ((by rw [hg]; exact Nat.ne_of_gt (blk_lt (g := gb102) (o := .cells #[.slice none 0 0, .int .i64 0, .slice none 0 0, .slice none 0 0, .slice none 0 0, .int .i64 0, .int .i64 0] 28 (0, 0)) (by (with_reducible repeat (first | refine blk_drewN ?_ _ | refine blk_drew ?_ | refine blk_alloc ?_ _)); exact BK102.out)) : gb122 ≠ gb102)); clear HO_3; clear HO_102000; clear HO_102002; clear HO_102004; clear BK101; clear BK102; clear HB; have HO_3 := n0_; have HO_102000 := n1_; have HO_102002 := n2_; have HO_102004 := n3_; have BK101 := n4_; have BK102 := n5_; have HB := n6_; have BK122 := n7_; have GW122 := n8_; have GE122 := n9_; have NB101_122 := n10_; have NB122_101 := n11_; have NB102_122 := n12_; have NB122_102 := n13_; clear n0_ n1_ n2_ n3_ n4_ n5_ n6_ n7_ n8_ n9_ n10_ n11_ n12_ n13_; clear hb hbox hg; have hnb32 := NB122_101.out; have hnc32 := NB101_122.out; have hnb33 := NB122_102.out; have hnc33 := NB102_122.out; have hcz34_0 : w31.cell? ⟨gb122, 0, none⟩ = some (.int .i64 0) := (blk_cell BK122.out 0).trans rfl; have hcz34_1 : w31.cell? ⟨gb122, 1, none⟩ = some (.int .i64 0) := (blk_cell BK122.out 1).trans rfl; have hcz34_2 : w31.cell? ⟨gb122, 2, none⟩ = some (.slice none 0 0) := (blk_cell BK122.out 2).trans rfl; have hfz34_0 := blk_frozen BK122.out 0; have hfz34_1 := blk_frozen BK122.out 1; have hfz34_2 := blk_frozen BK122.out 2))
           have n0_ : Aside0 (Kd.S k68 68 (((w31.setCell ⟨gb122, 0, none⟩ (.int .i64 ((rd_T68 l0_3 x24_1).f0))).setCell ⟨gb122, 1, none⟩ (.int .i64 ((rd_T68 l0_3 x24_1).f1))).setCell ⟨gb122, 2, none⟩ (.slice A121_2 ((rd_T68 l0_3 x24_1).f2).length c121_2)) w.heap.size (fun k_ => some k_ ≠ (.slice Ao12 y106.length co12 : Value).ownBlock ∧ some k_ ≠ (.slice Ao18 y112.length co18 : Value).ownBlock ∧ some k_ ≠ (.slice Ao24 y118.length co24 : Value).ownBlock ∧ k_ ≠ gb122) u3 x3_1) := ⟨by (with_reducible repeat (first | apply Kd.S_alloc | apply Kd.S_drewN | apply Kd.S_drew)); exact Kd.S_mono (Kd.S_far (p := ⟨gb122, 2, none⟩) (Kd.S_far (p := ⟨gb122, 1, none⟩) (Kd.S_far (p := ⟨gb122, 0, none⟩) (Kd.S_mono HO_3.out (fun k_ hk => (⟨hk, hk.2⟩ : _ ∧ k_ ≠ gb122))) (fun _ hk => hk.2) (.int .i64 ((rd_T68 l0_3 x24_1).f0))) (fun _ hk => hk.2) (.int .i64 ((rd_T68 l0_3 x24_1).f1))) (fun _ hk => hk.2) (.slice A121_2 ((rd_T68 l0_3 x24_1).f2).length c121_2)) (fun _ hk => ⟨hk.1.1.1, ⟨hk.1.1.2.1, ⟨hk.1.1.2.2, hk.1.2⟩⟩⟩)⟩
           have n1_ : Aside0 (Kd.R (Kd.int .i64) 3 (((w31.setCell ⟨gb122, 0, none⟩ (.int .i64 ((rd_T68 l0_3 x24_1).f0))).setCell ⟨gb122, 1, none⟩ (.int .i64 ((rd_T68 l0_3 x24_1).f1))).setCell ⟨gb122, 2, none⟩ (.slice A121_2 ((rd_T68 l0_3 x24_1).f2).length c121_2)) w.heap.size (fun k_ => some k_ ≠ (.slice Ao18 y112.length co18 : Value).ownBlock ∧ some k_ ≠ (.slice Ao24 y118.length co24 : Value).ownBlock) (.slice Ao12 y106.length co12) y106) := ⟨by (with_reducible repeat (first | apply Kd.R_alloc | apply Kd.R_drewN | apply Kd.R_drew)); exact Kd.R_mono (Kd.R_far (p := ⟨gb122, 2, none⟩) (Kd.R_far (p := ⟨gb122, 1, none⟩) (Kd.R_far (p := ⟨gb122, 0, none⟩) (Kd.R_types HO_102000.out BK122.out (by decide)) (fun _ hk => hk.2) (.int .i64 ((rd_T68 l0_3 x24_1).f0))) (fun _ hk => hk.2) (.int .i64 ((rd_T68 l0_3 x24_1).f1))) (fun _ hk => hk.2) (.slice A121_2 ((rd_T68 l0_3 x24_1).f2).length c121_2)) (fun _ hk => ⟨hk.1.1, hk.1.2⟩)⟩
           have n2_ : Aside0 (Kd.R (Kd.int .i64) 3 (((w31.setCell ⟨gb122, 0, none⟩ (.int .i64 ((rd_T68 l0_3 x24_1).f0))).setCell ⟨gb122, 1, none⟩ (.int .i64 ((rd_T68 l0_3 x24_1).f1))).setCell ⟨gb122, 2, none⟩ (.slice A121_2 ((rd_T68 l0_3 x24_1).f2).length c121_2)) w.heap.size (fun k_ => some k_ ≠ (.slice Ao12 y106.length co12 : Value).ownBlock ∧ some k_ ≠ (.slice Ao24 y118.length co24 : Value).ownBlock) (.slice Ao18 y112.length co18) y112) := ⟨by (with_reducible repeat (first | apply Kd.R_alloc | apply Kd.R_drewN | apply Kd.R_drew)); exact Kd.R_mono (Kd.R_far (p := ⟨gb122, 2, none⟩) (Kd.R_far (p := ⟨gb122, 1, none⟩) (Kd.R_far (p := ⟨gb122, 0, none⟩) (Kd.R_types HO_102002.out BK122.out (by decide)) (fun _ hk => hk.2) (.int .i64 ((rd_T68 l0_3 x24_1).f0))) (fun _ hk => hk.2) (.int .i64 ((rd_T68 l0_3 x24_1).f1))) (fun _ hk => hk.2) (.slice A121_2 ((rd_T68 l0_3 x24_1).f2).length c121_2)) (fun _ hk => ⟨hk.1.1, hk.1.2⟩)⟩
           have n3_ : Aside0 (Kd.R (Kd.int .i64) 3 (((w31.setCell ⟨gb122, 0, none⟩ (.int .i64 ((rd_T68 l0_3 x24_1).f0))).setCell ⟨gb122, 1, none⟩ (.int .i64 ((rd_T68 l0_3 x24_1).f1))).setCell ⟨gb122, 2, none⟩ (.slice A121_2 ((rd_T68 l0_3 x24_1).f2).length c121_2)) w.heap.size (fun k_ => some k_ ≠ (.slice Ao12 y106.length co12 : Value).ownBlock ∧ some k_ ≠ (.slice Ao18 y112.length co18 : Value).ownBlock) (.slice Ao24 y118.length co24) y118) := ⟨by (with_reducible repeat (first | apply Kd.R_alloc | apply Kd.R_drewN | apply Kd.R_drew)); exact Kd.R_mono (Kd.R_far (p := ⟨gb122, 2, none⟩) (Kd.R_far (p := ⟨gb122, 1, none⟩) (Kd.R_far (p := ⟨gb122, 0, none⟩) (Kd.R_types HO_102004.out BK122.out (by decide)) (fun _ hk => hk.2) (.int .i64 ((rd_T68 l0_3 x24_1).f0))) (fun _ hk => hk.2) (.int .i64 ((rd_T68 l0_3 x24_1).f1))) (fun _ hk => hk.2) (.slice A121_2 ((rd_T68 l0_3 x24_1).f2).length c121_2)) (fun _ hk => ⟨hk.1.1, hk.1.2⟩)⟩
           have n4_ : Aside0 ((((w31.setCell ⟨gb122, 0, none⟩ (.int .i64 ((rd_T68 l0_3 x24_1).f0))).setCell ⟨gb122, 1, none⟩ (.int .i64 ((rd_T68 l0_3 x24_1).f1))).setCell ⟨gb122, 2, none⟩ (.slice A121_2 ((rd_T68 l0_3 x24_1).f2).length c121_2)).heap[gb101]? = some (.cells #[.slice Ao12 y106.length co12, .int .i64 a0_1, .slice Ao18 y112.length co18, .slice (some ad121) l0_3.length c0_3, .slice Ao24 y118.length co24, .int .i64 a0_5, .int .i64 a0_6] 28 (0, 0))) := ⟨by (with_reducible repeat (first | refine blk_drewN ?_ _ | refine blk_drew ?_ | refine blk_alloc ?_ _)); refine blk_far ?_ NB101_122.out _; (with_reducible repeat (first | refine blk_drewN ?_ _ | refine blk_drew ?_ | refine blk_alloc ?_ _)); refine blk_far ?_ NB101_122.out _; (with_reducible repeat (first | refine blk_drewN ?_ _ | refine blk_drew ?_ | refine blk_alloc ?_ _)); refine blk_far ?_ NB101_122.out _; (with_reducible repeat (first | refine blk_drewN ?_ _ | refine blk_drew ?_ | refine blk_alloc ?_ _)); exact BK101.out⟩
           have n5_ : Aside0 ((((w31.setCell ⟨gb122, 0, none⟩ (.int .i64 ((rd_T68 l0_3 x24_1).f0))).setCell ⟨gb122, 1, none⟩ (.int .i64 ((rd_T68 l0_3 x24_1).f1))).setCell ⟨gb122, 2, none⟩ (.slice A121_2 ((rd_T68 l0_3 x24_1).f2).length c121_2)).heap[gb102]? = some (.cells #[.slice none 0 0, .int .i64 0, .slice none 0 0, .slice none 0 0, .slice none 0 0, .int .i64 0, .int .i64 0] 28 (0, 0))) := ⟨by (with_reducible repeat (first | refine blk_drewN ?_ _ | refine blk_drew ?_ | refine blk_alloc ?_ _)); refine blk_far ?_ NB102_122.out _; (with_reducible repeat (first | refine blk_drewN ?_ _ | refine blk_drew ?_ | refine blk_alloc ?_ _)); refine blk_far ?_ NB102_122.out _; (with_reducible repeat (first | refine blk_drewN ?_ _ | refine blk_drew ?_ | refine blk_alloc ?_ _)); refine blk_far ?_ NB102_122.out _; (with_reducible repeat (first | refine blk_drewN ?_ _ | refine blk_drew ?_ | refine blk_alloc ?_ _)); exact BK102.out⟩
           have n6_ : Aside0 ((((w31.setCell ⟨gb122, 0, none⟩ (.int .i64 ((rd_T68 l0_3 x24_1).f0))).setCell ⟨gb122, 1, none⟩ (.int .i64 ((rd_T68 l0_3 x24_1).f1))).setCell ⟨gb122, 2, none⟩ (.slice A121_2 ((rd_T68 l0_3 x24_1).f2).length c121_2)).heap[gb122]? = some (.cells #[.int .i64 ((rd_T68 l0_3 x24_1).f0), .int .i64 ((rd_T68 l0_3 x24_1).f1), .slice A121_2 ((rd_T68 l0_3 x24_1).f2).length c121_2] 68 (0, 0))) := ⟨by (with_reducible repeat (first | refine blk_drewN ?_ _ | refine blk_drew ?_ | refine blk_alloc ?_ _)); refine blk_put (cs := #[.int .i64 ((rd_T68 l0_3 x24_1).f0), .int .i64 ((rd_T68 l0_3 x24_1).f1), .slice none 0 0]) ?_ 2 _ rfl; (with_reducible repeat (first | refine blk_drewN ?_ _ | refine blk_drew ?_ | refine blk_alloc ?_ _)); refine blk_put (cs := #[.int .i64 ((rd_T68 l0_3 x24_1).f0), .int .i64 0, .slice none 0 0]) ?_ 1 _ rfl; (with_reducible repeat (first | refine blk_drewN ?_ _ | refine blk_drew ?_ | refine blk_alloc ?_ _)); refine blk_put (cs := #[.int .i64 0, .int .i64 0, .slice none 0 0]) ?_ 0 _ rfl; (with_reducible repeat (first | refine blk_drewN ?_ _ | refine blk_drew ?_ | refine blk_alloc ?_ _)); exact BK122.out⟩
           have n7_ : Aside0 (Below w.heap.size w (((w31.setCell ⟨gb122, 0, none⟩ (.int .i64 ((rd_T68 l0_3 x24_1).f0))).setCell ⟨gb122, 1, none⟩ (.int .i64 ((rd_T68 l0_3 x24_1).f1))).setCell ⟨gb122, 2, none⟩ (.slice A121_2 ((rd_T68 l0_3 x24_1).f2).length c121_2))) := ⟨by repeat (first | (with_reducible first | exact HB.out | apply below_alloc | apply pw_below_drewN | apply below_drew1 | refine below_set ?_ GE101.out | refine below_set ?_ GE102.out | refine below_set ?_ GE122.out) | exact HB.out)⟩
           (try clear HO_3)
           (try clear HO_102000)
           (try clear HO_102002)
           (try clear HO_102004)
           (try clear BK101)
           (try clear BK102)
           (try clear BK122)
           (try clear HB)
           generalize (((w31.setCell ⟨gb122, 0, none⟩ (.int .i64 ((rd_T68 l0_3 x24_1).f0))).setCell ⟨gb122, 1, none⟩ (.int .i64 ((rd_T68 l0_3 x24_1).f1))).setCell ⟨gb122, 2, none⟩ (.slice A121_2 ((rd_T68 l0_3 x24_1).f2).length c121_2)) = w35 at n0_ n1_ n2_ n3_ n4_ n5_ n6_ n7_ ⊢
           have HO_3 := n0_
           have HO_102000 := n1_
           have HO_102002 := n2_
           have HO_102004 := n3_
           have BK101 := n4_
           have BK102 := n5_
           have BK122 := n6_
           have HB := n7_
           clear n0_ n1_ n2_ n3_ n4_ n5_ n6_ n7_
           have n0_ := Aside0.mk (Kd.S_drew HO_3.out)
           have n1_ := Aside0.mk (Kd.R_drew HO_102000.out)
           have n2_ := Aside0.mk (Kd.R_drew HO_102002.out)
           have n3_ := Aside0.mk (Kd.R_drew HO_102004.out)
           have n4_ := Aside0.mk (blk_drew BK101.out)
           have n5_ := Aside0.mk (blk_drew BK102.out)
           have n6_ := Aside0.mk (blk_drew BK122.out)
           have n7_ := Aside0.mk (below_drew1 HB.out)
           clear HO_3
           clear HO_102000
           clear HO_102002
           clear HO_102004
           clear BK101
           clear BK102
           clear BK122
           clear HB
           have HO_3 := n0_
           have HO_102000 := n1_
           have HO_102002 := n2_
           have HO_102004 := n3_
           have BK101 := n4_
           have BK102 := n5_
           have BK122 := n6_
           have HB := n7_
           clear n0_ n1_ n2_ n3_ n4_ n5_ n6_ n7_
           refine start_ (n := 13) (S := fun w' => w'.cell? ⟨gb122, 0, none⟩ = some (.int .i64 ((rd_T68 l0_3 x24_1).f0)) ∧ w'.cell? ⟨gb122, 1, none⟩ = some (.int .i64 ((rd_T68 l0_3 x24_1).f1)) ∧ w'.cell? ⟨gb122, 2, none⟩ = some (.slice A121_2 ((rd_T68 l0_3 x24_1).f2).length c121_2)) (ds := []) (lA 13 0) (by kernel_rfl) rfl rfl ⟨(blk_cell BK122.out 0).trans rfl, (blk_cell BK122.out 1).trans rfl, (blk_cell BK122.out 2).trans rfl⟩ (fun hHeld => ?_); refine with_tabW spec_l16Own.tab8 spec_l16Own.bits8 (fun HT_ HW_ => ?_)
           generalize w35.drew = w36 at HO_3 HO_102000 HO_102002 HO_102004 BK101 BK102 BK122 HB hHeld ⊢
           refine pure_ (i := 0) (N := some 28) (v := ?_) (a' := ?_) (lA 13 1) rfl rfl (any_of HT_.out (by kernel_rfl)) (fun _ _ _ h => h) (Or.inl ⟨by rfl, ?_⟩) ?_ ?_
           rotate_left
           ·intro w'
            go_simp
            with_reducible rfl
           rotate_left
           ·simp only [Act.put, sT, s0, s1, i64_w, i32_w]
            rfl
           refine pure_ (i := 1) (N := some 29) (v := ?_) (a' := ?_) (lA 13 3) rfl rfl (any_of HT_.out (by kernel_rfl)) (fun _ _ _ h => h) (Or.inl ⟨by rfl, ?_⟩) ?_ ?_
           rotate_left
           ·intro w'
            go_simp
            with_reducible rfl
           rotate_left
           ·simp only [Act.put, sT, s0, s1, i64_w, i32_w]
            rfl
           refine pure_ (i := 3) (N := some 31) (v := ?_) (a' := ?_) (lA 13 11) rfl rfl (any_of HT_.out (by kernel_rfl)) (fun _ _ _ h => h) (Or.inl ⟨by rfl, ?_⟩) ?_ ?_
           rotate_left
           ·intro w'
            go_simp
            with_reducible rfl
           rotate_left
           ·simp only [Act.put, sT, s0, s1, i64_w, i32_w]
            rfl
           refine pure_ (i := 6) (N := some 34) (v := ?_) (a' := ?_) (lA 13 75) rfl rfl (any_of HT_.out (by kernel_rfl)) (fun _ _ _ h => h) (Or.inl ⟨by rfl, ?_⟩) ?_ ?_
           rotate_left
           ·intro w'
            go_simp
            with_reducible rfl
           rotate_left
           ·simp only [Act.put, sT, s0, s1, i64_w, i32_w]
            rfl
           refine take_ (i := 2) (N := some 30) (v := ?_) (a' := ?_) (lA 13 79) rfl rfl (take_ofW HT_.out HW_.out (by kernel_rfl)) (fun _ _ _ h => h) (Or.inl ⟨by rfl, ?_⟩) hHeld ?_ ?_
           rotate_left
           ·rintro w' ⟨s0, s1, s2⟩
            go_simp
            with_reducible rfl
           rotate_left
           ·simp only [Act.put, sT, s0, s1, i64_w, i32_w]
            rfl
           refine take_ (i := 4) (N := some 32) (v := ?_) (a' := ?_) (lA 13 95) rfl rfl (take_ofW HT_.out HW_.out (by kernel_rfl)) (fun _ _ _ h => h) (Or.inl ⟨by rfl, ?_⟩) hHeld ?_ ?_
           rotate_left
           ·rintro w' ⟨s0, s1, s2⟩
            go_simp
            with_reducible rfl
           rotate_left
           ·simp only [Act.put, sT, s0, s1, i64_w, i32_w]
            rfl
           refine take_ (i := 7) (N := some 35) (v := ?_) (a' := ?_) (lA 13 223) rfl rfl (take_ofW HT_.out HW_.out (by kernel_rfl)) (fun _ _ _ h => h) (Or.inl ⟨by rfl, ?_⟩) hHeld ?_ ?_
           rotate_left
           ·rintro w' ⟨s0, s1, s2⟩
            go_simp
            with_reducible rfl
           rotate_left
           ·simp only [Act.put, sT, s0, s1, i64_w, i32_w]
            rfl
           refine one_ (i := 5) (N := some 33) (lA 13 255) rfl rfl (one_of HT_.out (by kernel_rfl)) (by decide) (fun K hK => ?_)
           refine Kd.R_lit_step (Kd.int .i64) _ 3 ?hg (N := 33) ?hd (xs := ([] : List Int)) (inner := []) (ok := fun _ => True) (okp := fun _ => True) ?hr ?hp (fun _ hk => hk) trivial (Below.refl _ _) (Nat.le_refl _) (by simp) ?_; (case hd => rfl); (case hg => rfl); (case hr => first | (go_simp; done) | (go_simp; rfl)); (case hp => exact (Reps.none _ _))
           intro v124 w37 ho38 hb hg_ hnew_
           clear hg_ hnew_
           (first | rw [← Ny123.out] at ho38 | (simp only [Int.reduceToNat] at ho38; rw [← Ny123.out] at ho38))
           have n0_ := Aside0.mk (Kd.S_elder' (by (with_reducible repeat (first | apply Kd.S_alloc | apply Kd.S_drewN | apply Kd.S_drew)); exact HO_3.out) (Kd.R_base ho38) hb)
           have n1_ := Aside0.mk (Kd.R_elder' (by (with_reducible repeat (first | apply Kd.R_alloc | apply Kd.R_drewN | apply Kd.R_drew)); exact HO_102000.out) (Kd.R_base ho38) hb)
           have n2_ := Aside0.mk (Kd.R_elder' (by (with_reducible repeat (first | apply Kd.R_alloc | apply Kd.R_drewN | apply Kd.R_drew)); exact HO_102002.out) (Kd.R_base ho38) hb)
           have n3_ := Aside0.mk (Kd.R_elder' (by (with_reducible repeat (first | apply Kd.R_alloc | apply Kd.R_drewN | apply Kd.R_drew)); exact HO_102004.out) (Kd.R_base ho38) hb)
           have n4_ := Aside0.mk (Kd.R_lower (Kd.R_new' (Kd.R_new' (Kd.R_new' ho38 (Kd.R_lt (by (with_reducible repeat (first | apply Kd.R_alloc | apply Kd.R_drewN | apply Kd.R_drew)); exact HO_102000.out))) (Kd.R_lt (by (with_reducible repeat (first | apply Kd.R_alloc | apply Kd.R_drewN | apply Kd.R_drew)); exact HO_102002.out))) (Kd.R_lt (by (with_reducible repeat (first | apply Kd.R_alloc | apply Kd.R_drewN | apply Kd.R_drew)); exact HO_102004.out))) (below_size (by repeat (first | (with_reducible first | exact HB.out | apply below_alloc | apply pw_below_drewN | apply below_drew1 | refine below_set ?_ GE101.out | refine below_set ?_ GE102.out | refine below_set ?_ GE122.out) | exact HB.out))))
           have n5_ := Aside0.mk (blk_below (g := gb101) (o := .cells #[.slice Ao12 y106.length co12, .int .i64 a0_1, .slice Ao18 y112.length co18, .slice (some ad121) l0_3.length c0_3, .slice Ao24 y118.length co24, .int .i64 a0_5, .int .i64 a0_6] 28 (0, 0)) (by (with_reducible repeat (first | refine blk_drewN ?_ _ | refine blk_drew ?_ | refine blk_alloc ?_ _)); exact BK101.out) hb)
           have n6_ := Aside0.mk (blk_below (g := gb102) (o := .cells #[.slice none 0 0, .int .i64 0, .slice none 0 0, .slice none 0 0, .slice none 0 0, .int .i64 0, .int .i64 0] 28 (0, 0)) (by (with_reducible repeat (first | refine blk_drewN ?_ _ | refine blk_drew ?_ | refine blk_alloc ?_ _)); exact BK102.out) hb)
           have n7_ := Aside0.mk (blk_below (g := gb122) (o := .cells #[.int .i64 ((rd_T68 l0_3 x24_1).f0), .int .i64 ((rd_T68 l0_3 x24_1).f1), .slice A121_2 ((rd_T68 l0_3 x24_1).f2).length c121_2] 68 (0, 0)) (by (with_reducible repeat (first | refine blk_drewN ?_ _ | refine blk_drew ?_ | refine blk_alloc ?_ _)); exact BK122.out) hb)
           have n8_ := Aside0.mk (below_step (by repeat (first | (with_reducible first | exact HB.out | apply below_alloc | apply pw_below_drewN | apply below_drew1 | refine below_set ?_ GE101.out | refine below_set ?_ GE102.out | refine below_set ?_ GE122.out) | exact HB.out)) hb)
           clear HO_3
           clear HO_102000
           clear HO_102002
           clear HO_102004
           clear BK101
           clear BK102
           clear BK122
           clear HB
           have HO_3 := n0_
           have HO_102000 := n1_
           have HO_102002 := n2_
           have HO_102004 := n3_
           have HO125 := n4_
           have BK101 := n5_
           have BK102 := n6_
           have BK122 := n7_
           have HB := n8_
           clear n0_ n1_ n2_ n3_ n4_ n5_ n6_ n7_ n8_
           clear hb ho38
           refine hK.out _ _ ⟨(blk_cell BK122.out 0).trans rfl, (blk_cell BK122.out 1).trans rfl, (blk_cell BK122.out 2).trans rfl⟩ (fun hHeld => ?_)
           clear hK K
           refine norm_ (a' := ?_) ?_ ?_
           rotate_left
           ·show Act.put _ (some 33) _ = _
            simp only [Act.put, sT, s0, s1, i64_w, i32_w]
            rfl
           refine one_ (i := 8) (N := some 36) (lA 13 511) rfl rfl (one_of HT_.out (by kernel_rfl)) (by decide) (fun K hK => ?_)
           refine Kd.R_append_rows_step (Kd.int .i64) (w0 := w) w.heap.size (by rfl) (.tmp 33) (.tmp 35) 23 3 (.int .i64 0) 8 rfl Try.underlying23 info3 rfl (by decide) (by omega) v124 y123 ((rd_T68 l0_3 x24_1).f2) _ _ _ (fun k_ => some k_ ≠ (.slice Ao12 y106.length co12 : Value).ownBlock ∧ some k_ ≠ (.slice Ao18 y112.length co18 : Value).ownBlock ∧ some k_ ≠ (.slice Ao24 y118.length co24 : Value).ownBlock) (fun _ => False) rfl rfl ?aO ?aR (fun _ _ h => h) (fun _ h => h.elim) ?aF ?aB ?aS ?aL ?_
           (case aR => repeat (first | exact (Kd.C_below HR121_2.out HB.out) | (with_reducible refine Kd.C_alloc ?_ _) | (with_reducible refine Kd.C_drewN ?_ _) | (with_reducible refine Kd.C_drew ?_)))
           (case aB => exact (by repeat (first | (with_reducible first | exact HB.out | apply below_alloc | apply pw_below_drewN | apply below_drew1 | refine below_set ?_ GE101.out | refine below_set ?_ GE102.out | refine below_set ?_ GE122.out) | exact HB.out)))
           (case aF => exact (fun k_ hk => ⟨Kd.fresh' (Kd.R_lt (by (with_reducible repeat (first | apply Kd.R_alloc | apply Kd.R_drewN | apply Kd.R_drew)); exact HO_102000.out)) k_ hk, Kd.fresh' (Kd.R_lt (by (with_reducible repeat (first | apply Kd.R_alloc | apply Kd.R_drewN | apply Kd.R_drew)); exact HO_102002.out)) k_ hk, Kd.fresh' (Kd.R_lt (by (with_reducible repeat (first | apply Kd.R_alloc | apply Kd.R_drewN | apply Kd.R_drew)); exact HO_102004.out)) k_ hk⟩))
           (case aO => exact (by (with_reducible repeat (first | apply Kd.R_alloc | apply Kd.R_drewN | apply Kd.R_drew)); exact Kd.R_mono HO125.out (fun _ hk => ⟨hk.1.1.2, ⟨hk.1.2, hk.2⟩⟩)))
           (case aS => exact (below_size (by repeat (first | (with_reducible first | exact HB.out | apply below_alloc | apply pw_below_drewN | apply below_drew1 | refine below_set ?_ GE101.out | refine below_set ?_ GE102.out | refine below_set ?_ GE122.out) | exact HB.out))))
           (case aL => have := LMc29.out; omega)
           intro v127 w39 ho hb hg hat
           rw [← Ny126.out] at ho
           have n0_ := Aside0.mk (Kd.S_after (ok := (fun k_ => some k_ ≠ (.slice Ao12 y106.length co12 : Value).ownBlock ∧ some k_ ≠ (.slice Ao18 y112.length co18 : Value).ownBlock ∧ some k_ ≠ (.slice Ao24 y118.length co24 : Value).ownBlock ∧ k_ ≠ gb122)) (by (with_reducible repeat (first | apply Kd.S_alloc | apply Kd.S_drewN | apply Kd.S_drew)); exact HO_3.out) hg hat)
           have n1_ := Aside0.mk (Kd.R_after (ok := (fun k_ => some k_ ≠ (.slice Ao18 y112.length co18 : Value).ownBlock ∧ some k_ ≠ (.slice Ao24 y118.length co24 : Value).ownBlock)) (by (with_reducible repeat (first | apply Kd.R_alloc | apply Kd.R_drewN | apply Kd.R_drew)); exact HO_102000.out) hg hat)
           have n2_ := Aside0.mk (Kd.R_after (ok := (fun k_ => some k_ ≠ (.slice Ao12 y106.length co12 : Value).ownBlock ∧ some k_ ≠ (.slice Ao24 y118.length co24 : Value).ownBlock)) (by (with_reducible repeat (first | apply Kd.R_alloc | apply Kd.R_drewN | apply Kd.R_drew)); exact HO_102002.out) hg hat)
           have n3_ := Aside0.mk (Kd.R_after (ok := (fun k_ => some k_ ≠ (.slice Ao12 y106.length co12 : Value).ownBlock ∧ some k_ ≠ (.slice Ao18 y112.length co18 : Value).ownBlock)) (by (with_reducible repeat (first | apply Kd.R_alloc | apply Kd.R_drewN | apply Kd.R_drew)); exact HO_102004.out) hg hat)
           have n4_ := Aside0.mk (blk_grown (g := gb101) (o := .cells #[.slice Ao12 y106.length co12, .int .i64 a0_1, .slice Ao18 y112.length co18, .slice (some ad121) l0_3.length c0_3, .slice Ao24 y118.length co24, .int .i64 a0_5, .int .i64 a0_6] 28 (0, 0)) (by (with_reducible repeat (first | refine blk_drewN ?_ _ | refine blk_drew ?_ | refine blk_alloc ?_ _)); exact BK101.out) hg (Kd.R_ne HO125.out BK101.out (by decide)))
           have n5_ := Aside0.mk (blk_grown (g := gb102) (o := .cells #[.slice none 0 0, .int .i64 0, .slice none 0 0, .slice none 0 0, .slice none 0 0, .int .i64 0, .int .i64 0] 28 (0, 0)) (by (with_reducible repeat (first | refine blk_drewN ?_ _ | refine blk_drew ?_ | refine blk_alloc ?_ _)); exact BK102.out) hg (Kd.R_ne HO125.out BK102.out (by decide)))
           have n6_ := Aside0.mk (blk_grown (g := gb122) (o := .cells #[.int .i64 ((rd_T68 l0_3 x24_1).f0), .int .i64 ((rd_T68 l0_3 x24_1).f1), .slice A121_2 ((rd_T68 l0_3 x24_1).f2).length c121_2] 68 (0, 0)) (by (with_reducible repeat (first | refine blk_drewN ?_ _ | refine blk_drew ?_ | refine blk_alloc ?_ _)); exact BK122.out) hg (Kd.R_ne HO125.out BK122.out (by decide)))
           have n7_ := Aside0.mk (hb)
           have n8_ := Aside0.mk (ho)
           clear HO_3
           clear HO_102000
           clear HO_102002
           clear HO_102004
           clear BK101
           clear BK102
           clear BK122
           clear HB
           clear HO125
           have HO_3 := n0_
           have HO_102000 := n1_
           have HO_102002 := n2_
           have HO_102004 := n3_
           have BK101 := n4_
           have BK102 := n5_
           have BK122 := n6_
           have HB := n7_
           have HO128 := n8_
           clear n0_ n1_ n2_ n3_ n4_ n5_ n6_ n7_ n8_
           clear ho hb hg hat
           obtain ⟨Ao40, co40, eo40⟩ := Kd.R_slice HO128.out
           (first | subst eo40 | (injection eo40 with f1_ f2_ f3_; have f4_ := f1_.symm; have f5_ := f3_.symm; clear f1_ f2_ f3_; subst f4_; subst f5_))
           refine hK.out _ _ ⟨(blk_cell BK122.out 0).trans rfl, (blk_cell BK122.out 1).trans rfl, (blk_cell BK122.out 2).trans rfl⟩ (fun hHeld => ?_)
           clear hK K
           refine norm_ (a' := ?_) ?_ ?_
           rotate_left
           ·show Act.put _ (some 36) _ = _
            simp only [Act.put, sT, s0, s1, i64_w, i32_w]
            rfl
           refine pure_ (i := 9) (N := some 37) (v := ?_) (a' := ?_) (lA 13 1023) rfl rfl (any_of HT_.out (by kernel_rfl)) (fun _ _ _ h => h) (Or.inl ⟨by rfl, ?_⟩) ?_ ?_
           rotate_left
           ·intro w'
            go_simp
            with_reducible rfl
           rotate_left
           ·simp only [Act.put, sT, s0, s1, i64_w, i32_w]
            rfl
           refine one_ (i := 10) (N := some 38) (lA 13 2047) rfl rfl (one_of HT_.out (by kernel_rfl)) (by decide) (fun K hK => ?_)
           refine value_ (w1 := ?_) (v := ?_) (by rfl) rfl ?_ ?_
           rotate_left 2
           ·go_simp
            constructor
            ·rfl
            ·rfl
           refine hK.out _ _ ⟨(blk_cell (blk_alloc BK122.out _) 0).trans rfl, (blk_cell (blk_alloc BK122.out _) 1).trans rfl, (blk_cell (blk_alloc BK122.out _) 2).trans rfl⟩ (fun hHeld => ?_)
           clear hK K
           refine norm_ (a' := ?_) ?_ ?_
           rotate_left
           ·show Act.put _ (some 38) _ = _
            simp only [Act.put, sT, s0, s1, i64_w, i32_w]
            rfl
           refine one_ (i := 11) (N := some 39) (lA 13 4095) rfl rfl (one_of HT_.out (by kernel_rfl)) (by decide) (fun K hK => ?_)
           refine Kd.S_append_step k68 (w0 := w) w.heap.size (by rfl) (.tmp 28) (.tmp 38) 26 68 (.agg #[(.int .i64 0), (.int .i64 0), (.slice none 0 0)]) 40 rfl Try.underlying26 info68 rfl (by decide) (by omega) u3 x3_1 (⟨(rd_T68 l0_3 x24_1).f0, (rd_T68 l0_3 x24_1).f1, y126⟩ : S68) [.int .i64 ((rd_T68 l0_3 x24_1).f0), .int .i64 ((rd_T68 l0_3 x24_1).f1), .slice Ao40 y126.length co40] (fun k_ => some k_ ≠ (.slice Ao12 y106.length co12 : Value).ownBlock ∧ some k_ ≠ (.slice Ao18 y112.length co18 : Value).ownBlock ∧ some k_ ≠ (.slice Ao24 y118.length co24 : Value).ownBlock ∧ k_ ≠ gb122) (fun k_ => some k_ = (.slice Ao40 y126.length co40 : Value).ownBlock) rfl rfl ?aP (fun k_ hk_ => ((Kd.R_mono (ok' := fun k_ => ((fun k_ => some k_ ≠ (.slice Ao12 y106.length co12 : Value).ownBlock ∧ some k_ ≠ (.slice Ao18 y112.length co18 : Value).ownBlock ∧ some k_ ≠ (.slice Ao24 y118.length co24 : Value).ownBlock ∧ k_ ≠ gb122)) k_ ∧ some k_ ≠ (u3 : Value).ownBlock) (Kd.R_types (Kd.R_apart' (HO128.out) (Kd.S_typed HO_3.out) (by decide)) BK122.out (by decide)) (fun k_ hk => ⟨⟨hk.1.1.1, ⟨hk.1.1.2.1, ⟨hk.1.1.2.2, hk.2⟩⟩⟩, hk.1.2⟩))).1 k_ hk_.symm) ?aF ?aO ?aB ?aS ?aL ?_
           (case aP => exact k68_mkM _ _ _ (⟨(rd_T68 l0_3 x24_1).f0, (rd_T68 l0_3 x24_1).f1, y126⟩ : S68) (Kd.R_mono (Kd.R_tight rfl (Kd.R_mono (ok' := fun k_ => ((fun k_ => some k_ ≠ (.slice Ao12 y106.length co12 : Value).ownBlock ∧ some k_ ≠ (.slice Ao18 y112.length co18 : Value).ownBlock ∧ some k_ ≠ (.slice Ao24 y118.length co24 : Value).ownBlock ∧ k_ ≠ gb122)) k_ ∧ some k_ ≠ (u3 : Value).ownBlock) (Kd.R_types (Kd.R_apart' (HO128.out) (Kd.S_typed HO_3.out) (by decide)) BK122.out (by decide)) (fun k_ hk => ⟨⟨hk.1.1.1, ⟨hk.1.1.2.1, ⟨hk.1.1.2.2, hk.2⟩⟩⟩, hk.1.2⟩))) (fun _ h_ => h_)))
           (case aB => exact (by repeat (first | (with_reducible first | exact HB.out | apply below_alloc | apply pw_below_drewN | apply below_drew1 | refine below_set ?_ GE101.out | refine below_set ?_ GE102.out | refine below_set ?_ GE122.out) | exact HB.out)))
           (case aF => exact (fun k_ hk => ⟨Kd.fresh' (Kd.R_lt (by (with_reducible repeat (first | apply Kd.R_alloc | apply Kd.R_drewN | apply Kd.R_drew)); exact HO_102000.out)) k_ hk, Kd.fresh' (Kd.R_lt (by (with_reducible repeat (first | apply Kd.R_alloc | apply Kd.R_drewN | apply Kd.R_drew)); exact HO_102002.out)) k_ hk, Kd.fresh' (Kd.R_lt (by (with_reducible repeat (first | apply Kd.R_alloc | apply Kd.R_drewN | apply Kd.R_drew)); exact HO_102004.out)) k_ hk, Kd.freshB (g := gb122) (o := .cells #[.int .i64 ((rd_T68 l0_3 x24_1).f0), .int .i64 ((rd_T68 l0_3 x24_1).f1), .slice A121_2 ((rd_T68 l0_3 x24_1).f2).length c121_2] 68 (0, 0)) (by (with_reducible repeat (first | refine blk_drewN ?_ _ | refine blk_drew ?_ | refine blk_alloc ?_ _)); exact BK122.out) k_ hk⟩))
           (case aO => exact (by (with_reducible repeat (first | apply Kd.S_alloc | apply Kd.S_drewN | apply Kd.S_drew)); exact Kd.S_mono HO_3.out (fun k_ hk => ⟨⟨hk.1.1, ⟨hk.1.2.1, ⟨hk.1.2.2.1, hk.1.2.2.2⟩⟩⟩, fun e_ => hk.2 e_⟩)))
           (case aS => exact (below_size (by repeat (first | (with_reducible first | exact HB.out | apply below_alloc | apply pw_below_drewN | apply below_drew1 | refine below_set ?_ GE101.out | refine below_set ?_ GE102.out | refine below_set ?_ GE122.out) | exact HB.out))))
           (case aL => have := LMc30.out; omega)
           intro v130 w41 ho hb hg hat
           rw [← Ny129.out] at ho
           have n0_ := Aside0.mk (Kd.R_over' (by (with_reducible repeat (first | apply Kd.R_alloc | apply Kd.R_drewN | apply Kd.R_drew)); exact HO_102000.out) (Kd.S_typed (by (with_reducible repeat (first | apply Kd.S_alloc | apply Kd.S_drewN | apply Kd.S_drew)); exact HO_3.out)) (by decide) hg)
           have n1_ := Aside0.mk (Kd.R_over' (by (with_reducible repeat (first | apply Kd.R_alloc | apply Kd.R_drewN | apply Kd.R_drew)); exact HO_102002.out) (Kd.S_typed (by (with_reducible repeat (first | apply Kd.S_alloc | apply Kd.S_drewN | apply Kd.S_drew)); exact HO_3.out)) (by decide) hg)
           have n2_ := Aside0.mk (Kd.R_over' (by (with_reducible repeat (first | apply Kd.R_alloc | apply Kd.R_drewN | apply Kd.R_drew)); exact HO_102004.out) (Kd.S_typed (by (with_reducible repeat (first | apply Kd.S_alloc | apply Kd.S_drewN | apply Kd.S_drew)); exact HO_3.out)) (by decide) hg)
           have n3_ := Aside0.mk (blk_grown (g := gb101) (o := .cells #[.slice Ao12 y106.length co12, .int .i64 a0_1, .slice Ao18 y112.length co18, .slice (some ad121) l0_3.length c0_3, .slice Ao24 y118.length co24, .int .i64 a0_5, .int .i64 a0_6] 28 (0, 0)) (by (with_reducible repeat (first | refine blk_drewN ?_ _ | refine blk_drew ?_ | refine blk_alloc ?_ _)); exact BK101.out) hg (Kd.S_ne HO_3.out BK101.out (by decide)))
           have n4_ := Aside0.mk (blk_grown (g := gb102) (o := .cells #[.slice none 0 0, .int .i64 0, .slice none 0 0, .slice none 0 0, .slice none 0 0, .int .i64 0, .int .i64 0] 28 (0, 0)) (by (with_reducible repeat (first | refine blk_drewN ?_ _ | refine blk_drew ?_ | refine blk_alloc ?_ _)); exact BK102.out) hg (Kd.S_ne HO_3.out BK102.out (by decide)))
           have n5_ := Aside0.mk (blk_grown (g := gb122) (o := .cells #[.int .i64 ((rd_T68 l0_3 x24_1).f0), .int .i64 ((rd_T68 l0_3 x24_1).f1), .slice A121_2 ((rd_T68 l0_3 x24_1).f2).length c121_2] 68 (0, 0)) (by (with_reducible repeat (first | refine blk_drewN ?_ _ | refine blk_drew ?_ | refine blk_alloc ?_ _)); exact BK122.out) hg (Kd.S_away HO_3.out (fun _ hk => hk.1.2.2.2)))
           have n6_ := Aside0.mk (hb)
           have n7_ := Aside0.mk (ho)
           clear HO_102000
           clear HO_102002
           clear HO_102004
           clear BK101
           clear BK102
           clear BK122
           clear HB
           clear HO_3
           clear HO128
           have HO_102000 := n0_
           have HO_102002 := n1_
           have HO_102004 := n2_
           have BK101 := n3_
           have BK102 := n4_
           have BK122 := n5_
           have HB := n6_
           have HO131 := n7_
           clear n0_ n1_ n2_ n3_ n4_ n5_ n6_ n7_
           clear ho hb hg hat
           refine hK.out _ _ ⟨(blk_cell BK122.out 0).trans rfl, (blk_cell BK122.out 1).trans rfl, (blk_cell BK122.out 2).trans rfl⟩ (fun hHeld => ?_)
           clear hK K
           refine norm_ (a' := ?_) ?_ ?_
           rotate_left
           ·show Act.put _ (some 39) _ = _
            simp only [Act.put, sT, s0, s1, i64_w, i32_w]
            rfl
           refine pure_ (i := 12) (N := some 3) (v := ?_) (a' := ?_) (lA 13 8191) rfl rfl (any_of HT_.out (by kernel_rfl)) (fun _ _ _ h => h) (Or.inl ⟨by rfl, ?_⟩) ?_ ?_
           rotate_left
           ·intro w'
            go_simp
            with_reducible rfl
           rotate_left
           ·simp only [Act.put, sT, s0, s1, i64_w, i32_w]
            rfl
           refine done_ (done_of HT_.out (by kernel_rfl)) ?_
           try go_wp2
           go_roundg k1
           case measure => have := HK1.out; omega
           case rel => exact ⟨(y129), (wrap64 (x24_1 + 1)), (by first | rfl | (simp; done) | (simp [*]; done)), H', ⟨by have := HK1.out; omega⟩, ⟨by (with_reducible repeat (first | apply Kd.S_alloc | apply Kd.S_drewN | apply Kd.S_drew)); exact Kd.S_mono HO131.out (fun _ hk => ⟨hk.1, ⟨hk.2.1, hk.2.2.1⟩⟩)⟩, ⟨by (with_reducible repeat (first | apply Kd.R_alloc | apply Kd.R_drewN | apply Kd.R_drew)); exact Kd.R_mono HO_102000.out (fun _ hk => ⟨hk.1.1, hk.1.2⟩)⟩, ⟨by (with_reducible repeat (first | apply Kd.R_alloc | apply Kd.R_drewN | apply Kd.R_drew)); exact Kd.R_mono HO_102002.out (fun _ hk => ⟨hk.1.1, hk.1.2⟩)⟩, ⟨by (with_reducible repeat (first | apply Kd.R_alloc | apply Kd.R_drewN | apply Kd.R_drew)); exact Kd.R_mono HO_102004.out (fun _ hk => ⟨hk.1.1, hk.1.2⟩)⟩, ⟨by (with_reducible repeat (first | refine blk_drewN ?_ _ | refine blk_drew ?_ | refine blk_alloc ?_ _)); exact BK101.out⟩, ⟨by (with_reducible repeat (first | refine blk_drewN ?_ _ | refine blk_drew ?_ | refine blk_alloc ?_ _)); exact BK102.out⟩, ⟨by repeat (first | (with_reducible first | exact HB.out | apply below_alloc | apply pw_below_drewN | apply below_drew1 | refine below_set ?_ GE101.out | refine below_set ?_ GE102.out | refine below_set ?_ GE122.out) | exact HB.out)⟩⟩
          ·rw [if_neg c30] at H
           exact absurd H (by simp)
         ·rw [if_neg c29] at H
          exact absurd H (by simp)
        ·rw [if_neg c28] at H
         exact absurd H (by simp)
       ·rw [if_neg c27] at H
        exact absurd H (by simp)
      ·rw [if_neg c26] at H
       have c26b0 : decide (x24_1 < (l0_3.length : Int)) = false := decide_eq_false c26
       clear c26
       simp only [Option.some.injEq, Prod.mk.injEq] at H
       obtain ⟨rfl, rfl, rfl, rfl, rfl, rfl, rfl⟩ := H
       obtain ⟨Ao42, co42, eo42⟩ := Kd.S_slice HO_3.out
       subst eo42
       have hnb43 := NB101_102.out
       have hnc43 := NB102_101.out
       have hcz44_0 : wr.cell? ⟨gb101, 0, none⟩ = some (.slice Ao12 y106.length co12) := (blk_cell BK101.out 0).trans rfl
       have hcz44_1 : wr.cell? ⟨gb101, 1, none⟩ = some (.int .i64 a0_1) := (blk_cell BK101.out 1).trans rfl
       have hcz44_2 : wr.cell? ⟨gb101, 2, none⟩ = some (.slice Ao18 y112.length co18) := (blk_cell BK101.out 2).trans rfl
       have hcz44_3 : wr.cell? ⟨gb101, 3, none⟩ = some (.slice A0_3 l0_3.length c0_3) := (blk_cell BK101.out 3).trans rfl
       have hcz44_4 : wr.cell? ⟨gb101, 4, none⟩ = some (.slice Ao24 y118.length co24) := (blk_cell BK101.out 4).trans rfl
       have hcz44_5 : wr.cell? ⟨gb101, 5, none⟩ = some (.int .i64 a0_5) := (blk_cell BK101.out 5).trans rfl
       have hcz44_6 : wr.cell? ⟨gb101, 6, none⟩ = some (.int .i64 a0_6) := (blk_cell BK101.out 6).trans rfl
       have hfz44_0 := blk_frozen BK101.out 0
       have hfz44_1 := blk_frozen BK101.out 1
       have hfz44_2 := blk_frozen BK101.out 2
       have hfz44_3 := blk_frozen BK101.out 3
       have hfz44_4 := blk_frozen BK101.out 4
       have hfz44_5 := blk_frozen BK101.out 5
       have hfz44_6 := blk_frozen BK101.out 6
       have hcz45_0 : wr.cell? ⟨gb102, 0, none⟩ = some (.slice none 0 0) := (blk_cell BK102.out 0).trans rfl
       have hcz45_1 : wr.cell? ⟨gb102, 1, none⟩ = some (.int .i64 0) := (blk_cell BK102.out 1).trans rfl
       have hcz45_2 : wr.cell? ⟨gb102, 2, none⟩ = some (.slice none 0 0) := (blk_cell BK102.out 2).trans rfl
       have hcz45_3 : wr.cell? ⟨gb102, 3, none⟩ = some (.slice none 0 0) := (blk_cell BK102.out 3).trans rfl
       have hcz45_4 : wr.cell? ⟨gb102, 4, none⟩ = some (.slice none 0 0) := (blk_cell BK102.out 4).trans rfl
       have hcz45_5 : wr.cell? ⟨gb102, 5, none⟩ = some (.int .i64 0) := (blk_cell BK102.out 5).trans rfl
       have hcz45_6 : wr.cell? ⟨gb102, 6, none⟩ = some (.int .i64 0) := (blk_cell BK102.out 6).trans rfl
       have hfz45_0 := blk_frozen BK102.out 0
       have hfz45_1 := blk_frozen BK102.out 1
       have hfz45_2 := blk_frozen BK102.out 2
       have hfz45_3 := blk_frozen BK102.out 3
       have hfz45_4 := blk_frozen BK102.out 4
       have hfz45_5 := blk_frozen BK102.out 5
       have hfz45_6 := blk_frozen BK102.out 6
       go_wp2
       refine bodyPost_ret (results_cell_row rfl _ _ gb102 28 #[.slice Ao12 y106.length co12, .int .i64 a0_1, .slice Ao18 y112.length co18, .slice Ao42 x3_1.length co42, .slice Ao24 y118.length co24, .int .i64 a0_5, .int .i64 a0_6] (0, 0) _ rfl (by (with_reducible repeat (first | refine blk_drewN ?_ _ | refine blk_drew ?_ | refine blk_alloc ?_ _)); refine blk_put (cs := #[.slice Ao12 y106.length co12, .int .i64 a0_1, .slice Ao18 y112.length co18, .slice Ao42 x3_1.length co42, .slice Ao24 y118.length co24, .int .i64 a0_5, .int .i64 0]) ?_ 6 _ rfl; (with_reducible repeat (first | refine blk_drewN ?_ _ | refine blk_drew ?_ | refine blk_alloc ?_ _)); refine blk_put (cs := #[.slice Ao12 y106.length co12, .int .i64 a0_1, .slice Ao18 y112.length co18, .slice Ao42 x3_1.length co42, .slice Ao24 y118.length co24, .int .i64 0, .int .i64 0]) ?_ 5 _ rfl; (with_reducible repeat (first | refine blk_drewN ?_ _ | refine blk_drew ?_ | refine blk_alloc ?_ _)); refine blk_put (cs := #[.slice Ao12 y106.length co12, .int .i64 a0_1, .slice Ao18 y112.length co18, .slice Ao42 x3_1.length co42, .slice none 0 0, .int .i64 0, .int .i64 0]) ?_ 4 _ rfl; (with_reducible repeat (first | refine blk_drewN ?_ _ | refine blk_drew ?_ | refine blk_alloc ?_ _)); refine blk_put (cs := #[.slice Ao12 y106.length co12, .int .i64 a0_1, .slice Ao18 y112.length co18, .slice none 0 0, .slice none 0 0, .int .i64 0, .int .i64 0]) ?_ 3 _ rfl; (with_reducible repeat (first | refine blk_drewN ?_ _ | refine blk_drew ?_ | refine blk_alloc ?_ _)); refine blk_put (cs := #[.slice Ao12 y106.length co12, .int .i64 a0_1, .slice none 0 0, .slice none 0 0, .slice none 0 0, .int .i64 0, .int .i64 0]) ?_ 2 _ rfl; (with_reducible repeat (first | refine blk_drewN ?_ _ | refine blk_drew ?_ | refine blk_alloc ?_ _)); refine blk_put (cs := #[.slice Ao12 y106.length co12, .int .i64 0, .slice none 0 0, .slice none 0 0, .slice none 0 0, .int .i64 0, .int .i64 0]) ?_ 1 _ rfl; (with_reducible repeat (first | refine blk_drewN ?_ _ | refine blk_drew ?_ | refine blk_alloc ?_ _)); refine blk_put (cs := #[.slice none 0 0, .int .i64 0, .slice none 0 0, .slice none 0 0, .slice none 0 0, .int .i64 0, .int .i64 0]) ?_ 0 _ rfl; (with_reducible repeat (first | refine blk_drewN ?_ _ | refine blk_drew ?_ | refine blk_alloc ?_ _)); refine blk_far ?_ NB102_101.out _; (with_reducible repeat (first | refine blk_drewN ?_ _ | refine blk_drew ?_ | refine blk_alloc ?_ _)); exact BK102.out) Try.underlying28 rfl (by kernel_rfl)) rfl ?_
       exact ⟨_, _, _, _, by first | rfl | (simp [errW_none, errW_some] <;> rfl) | (simp [*, errW_none, errW_some] <;> rfl), by (with_reducible repeat (first | apply Kd.R_alloc | apply Kd.R_drewN | apply Kd.R_drew)); exact Kd.R_mono (Kd.R_far (p := ⟨gb102, 6, none⟩) (Kd.R_far (p := ⟨gb102, 5, none⟩) (Kd.R_far (p := ⟨gb102, 4, none⟩) (Kd.R_far (p := ⟨gb102, 3, none⟩) (Kd.R_far (p := ⟨gb102, 2, none⟩) (Kd.R_far (p := ⟨gb102, 1, none⟩) (Kd.R_far (p := ⟨gb102, 0, none⟩) (Kd.R_far (p := ⟨gb101, 3, none⟩) (Kd.R_types (Kd.R_types HO_102000.out BK101.out (by decide)) BK102.out (by decide)) (fun _ hk => hk.1.2) (.slice Ao42 x3_1.length co42)) (fun _ hk => hk.2) (.slice Ao12 y106.length co12)) (fun _ hk => hk.2) (.int .i64 a0_1)) (fun _ hk => hk.2) (.slice Ao18 y112.length co18)) (fun _ hk => hk.2) (.slice Ao42 x3_1.length co42)) (fun _ hk => hk.2) (.slice Ao24 y118.length co24)) (fun _ hk => hk.2) (.int .i64 a0_5)) (fun _ hk => hk.2) (.int .i64 a0_6)) (fun _ hk => ⟨hk.1.1.1, hk.1.1.2⟩), by (with_reducible repeat (first | apply Kd.R_alloc | apply Kd.R_drewN | apply Kd.R_drew)); exact Kd.R_mono (Kd.R_far (p := ⟨gb102, 6, none⟩) (Kd.R_far (p := ⟨gb102, 5, none⟩) (Kd.R_far (p := ⟨gb102, 4, none⟩) (Kd.R_far (p := ⟨gb102, 3, none⟩) (Kd.R_far (p := ⟨gb102, 2, none⟩) (Kd.R_far (p := ⟨gb102, 1, none⟩) (Kd.R_far (p := ⟨gb102, 0, none⟩) (Kd.R_far (p := ⟨gb101, 3, none⟩) (Kd.R_types (Kd.R_types HO_102002.out BK101.out (by decide)) BK102.out (by decide)) (fun _ hk => hk.1.2) (.slice Ao42 x3_1.length co42)) (fun _ hk => hk.2) (.slice Ao12 y106.length co12)) (fun _ hk => hk.2) (.int .i64 a0_1)) (fun _ hk => hk.2) (.slice Ao18 y112.length co18)) (fun _ hk => hk.2) (.slice Ao42 x3_1.length co42)) (fun _ hk => hk.2) (.slice Ao24 y118.length co24)) (fun _ hk => hk.2) (.int .i64 a0_5)) (fun _ hk => hk.2) (.int .i64 a0_6)) (fun _ hk => ⟨hk.1.1.1, hk.1.1.2⟩), by (with_reducible repeat (first | apply Kd.S_alloc | apply Kd.S_drewN | apply Kd.S_drew)); exact Kd.S_mono (Kd.S_far (p := ⟨gb102, 6, none⟩) (Kd.S_far (p := ⟨gb102, 5, none⟩) (Kd.S_far (p := ⟨gb102, 4, none⟩) (Kd.S_far (p := ⟨gb102, 3, none⟩) (Kd.S_far (p := ⟨gb102, 2, none⟩) (Kd.S_far (p := ⟨gb102, 1, none⟩) (Kd.S_far (p := ⟨gb102, 0, none⟩) (Kd.S_far (p := ⟨gb101, 3, none⟩) (Kd.S_types (Kd.S_types HO_3.out BK101.out (by decide)) BK102.out (by decide)) (fun _ hk => hk.1.2) (.slice Ao42 x3_1.length co42)) (fun _ hk => hk.2) (.slice Ao12 y106.length co12)) (fun _ hk => hk.2) (.int .i64 a0_1)) (fun _ hk => hk.2) (.slice Ao18 y112.length co18)) (fun _ hk => hk.2) (.slice Ao42 x3_1.length co42)) (fun _ hk => hk.2) (.slice Ao24 y118.length co24)) (fun _ hk => hk.2) (.int .i64 a0_5)) (fun _ hk => hk.2) (.int .i64 a0_6)) (fun _ hk => ⟨hk.1.1.1, ⟨hk.1.1.2.1, hk.1.1.2.2⟩⟩), by (with_reducible repeat (first | apply Kd.R_alloc | apply Kd.R_drewN | apply Kd.R_drew)); exact Kd.R_mono (Kd.R_far (p := ⟨gb102, 6, none⟩) (Kd.R_far (p := ⟨gb102, 5, none⟩) (Kd.R_far (p := ⟨gb102, 4, none⟩) (Kd.R_far (p := ⟨gb102, 3, none⟩) (Kd.R_far (p := ⟨gb102, 2, none⟩) (Kd.R_far (p := ⟨gb102, 1, none⟩) (Kd.R_far (p := ⟨gb102, 0, none⟩) (Kd.R_far (p := ⟨gb101, 3, none⟩) (Kd.R_types (Kd.R_types HO_102004.out BK101.out (by decide)) BK102.out (by decide)) (fun _ hk => hk.1.2) (.slice Ao42 x3_1.length co42)) (fun _ hk => hk.2) (.slice Ao12 y106.length co12)) (fun _ hk => hk.2) (.int .i64 a0_1)) (fun _ hk => hk.2) (.slice Ao18 y112.length co18)) (fun _ hk => hk.2) (.slice Ao42 x3_1.length co42)) (fun _ hk => hk.2) (.slice Ao24 y118.length co24)) (fun _ hk => hk.2) (.int .i64 a0_5)) (fun _ hk => hk.2) (.int .i64 a0_6)) (fun _ hk => ⟨hk.1.1.1, hk.1.1.2⟩), by repeat (first | (with_reducible first | exact HB.out | apply below_alloc | apply pw_below_drewN | apply below_drew1 | refine below_set ?_ GE101.out | refine below_set ?_ GE102.out) | exact HB.out)⟩
   ·rw [if_neg c4] at H
    exact absurd H (by simp)
  ·rw [if_neg c3] at H
   exact absurd H (by simp)
 ·rw [if_neg c2] at H
  exact absurd H (by simp)

end Go.Proofs.Ytjndadjhhknggaa.Q
end
section
/- Good sinks, and sinks in new memory, as plain functions: the program's and the specification's are one. -/
namespace Go.Proofs.Ytjndadjhhknggaa.Q
open Go.RowKit Go.Proofs.YtjndadjhhknggaaW.PrintWords Go.Proofs.YtjndadjhhknggaaW.PrintLast
set_option linter.unusedVariables false
set_option linter.unusedSimpArgs false

theorem rd_at (l : List Int) (i : Nat) (h : i < l.length) : rd l (i : Int) = l[i] := by
 show l.getD i 0 = _
 rw [List.getD_eq_getElem?_getD, List.getElem?_eq_getElem h]; rfl
theorem rd68_at (l : List S68) (i : Nat) (h : i < l.length) : rd_T68 l (i : Int) = l[i] := by
 show l.getD i z68 = _
 rw [List.getD_eq_getElem?_getD, List.getElem?_eq_getElem h]; rfl
theorem drop_at {α : Type} (l : List α) (i : Nat) (h : i < l.length) : l.drop i = l[i] :: l.drop (i + 1) := List.drop_eq_getElem_cons h
theorem eq_drop (a b : List Int) (i : Nat) (h1 : i < a.length) (h2 : i < b.length) : decide (a.drop i = b.drop i) = (decide (a[i] = b[i]) && decide (a.drop (i + 1) = b.drop (i + 1))) := by
 rw [drop_at a i h1, drop_at b i h2]
 simp only [List.cons.injEq, Bool.decide_and]
theorem equal_l0 (a b : List Int) (hl : a.length = b.length) (ha : a.length ≤ 1000000000) (d : Nat) : ∀ (f i : Nat), i + d = a.length → d < f → slices_Equal_int_int.l0 f a b (a.length : Int) (i : Int) = some (decide (a.drop i = b.drop i)) := by
 induction d with
 | zero =>
  intro f i hi hf
  obtain ⟨f, rfl⟩ : ∃ m, f = m + 1 := ⟨f - 1, by omega⟩
  simp only [slices_Equal_int_int.l0]
  rw [if_neg (by omega), List.drop_eq_nil_of_le (by omega), List.drop_eq_nil_of_le (by omega)]
  simp
 | succ d ih =>
  intro f i hi hf
  obtain ⟨f, rfl⟩ : ∃ m, f = m + 1 := ⟨f - 1, by omega⟩
  have h1 : i < a.length := by omega
  have h2 : i < b.length := by omega
  simp only [slices_Equal_int_int.l0]
  rw [eq_drop a b i h1 h2, if_pos (by omega), if_pos (by omega), if_pos (by omega), if_pos (by omega), rd_at a i h1, rd_at b i h2, wrap_id ((i : Int) + 1) (by omega) (by omega), show (i : Int) + 1 = ((i + 1 : Nat) : Int) from by omega]
  by_cases e : a[i] = b[i]
  ·simp only [e, decide_true, Bool.true_and, if_true]
   exact ih f (i + 1) (by omega) (by omega)
  ·simp [e]
theorem equal_f (a b : List Int) (ha : a.length ≤ 1000000000) (k : Nat) (hk : a.length < k) : slices_Equal_int_int.f k a b = some (decide (a = b)) := by
 unfold slices_Equal_int_int.f
 by_cases h : a.length = b.length
 ·rw [if_pos (by omega)]
  simpa using equal_l0 a b h ha a.length k 0 (by omega) hk
 ·rw [if_neg (by omega)]
  have : a ≠ b := fun e => h (by rw [e])
  simp [this]
theorem same_l0 (a b : List Int) (hl : a.length = b.length) (ha : a.length ≤ 1000000000) (d : Nat) : ∀ (f i : Nat), i + d = a.length → d < f → spec_l16Same.l0 f a b (a.length : Int) (i : Int) = some (decide (a.drop i = b.drop i)) := by
 induction d with
 | zero =>
  intro f i hi hf
  obtain ⟨f, rfl⟩ : ∃ m, f = m + 1 := ⟨f - 1, by omega⟩
  simp only [spec_l16Same.l0]
  rw [if_neg (by omega), List.drop_eq_nil_of_le (by omega), List.drop_eq_nil_of_le (by omega)]
  simp
 | succ d ih =>
  intro f i hi hf
  obtain ⟨f, rfl⟩ : ∃ m, f = m + 1 := ⟨f - 1, by omega⟩
  have h1 : i < a.length := by omega
  have h2 : i < b.length := by omega
  simp only [spec_l16Same.l0]
  rw [eq_drop a b i h1 h2, if_pos (by omega), if_pos (by omega), if_pos (by omega), if_pos (by omega), rd_at a i h1, rd_at b i h2, wrap_id ((i : Int) + 1) (by omega) (by omega), show (i : Int) + 1 = ((i + 1 : Nat) : Int) from by omega]
  by_cases e : a[i] = b[i]
  ·simp only [e, decide_true, Bool.true_and, if_true]
   exact ih f (i + 1) (by omega) (by omega)
  ·simp [e]
theorem same_f (a b : List Int) (ha : a.length ≤ 1000000000) (k : Nat) (hk : a.length < k) : spec_l16Same.f k a b = some (decide (a = b)) := by
 unfold spec_l16Same.f
 by_cases h : a.length = b.length
 ·rw [if_pos (by omega)]
  simpa using same_l0 a b h ha a.length k 0 (by omega) hk
 ·rw [if_neg (by omega)]
  have : a ≠ b := fun e => h (by rw [e])
  simp [this]
/-! ### good sinks -/
def cutK (src : List Int) (a b : Int) : List Int := (src.take b.toNat).drop a.toNat
def chainK (src : List Int) (at_ : Int) : Int → Int → List S68 → Option Int
 | _, up, [] => some up
 | no, up, p :: r => if p.f0 = no + 1 ∧ p.f0 ≤ 1000 ∧ up ≤ p.f1 ∧ p.f1 ≤ at_ ∧ p.f2 = cutK src up p.f1 then chainK src at_ p.f0 p.f1 r else none
def tailK (src : List Int) (at_ upto : Int) (pend out : List Int) : Option Int → Bool
 | some up => decide (pend = cutK src up at_) && decide (out = src.take upto.toNat)
 | none => false
def goodK (s : SK) : Bool :=
 decide (s.src.length ≤ 30 ∧ 0 ≤ s.at_ ∧ s.at_ ≤ s.src.length ∧ 0 ≤ s.upto ∧ s.upto ≤ s.at_ ∧ 0 ≤ s.last ∧ s.last ≤ 1000 ∧ s.stored.length ≤ 4) && tailK s.src s.at_ s.upto s.pend s.out (chainK s.src s.at_ s.last s.upto s.stored)
theorem within_f (n a b : Int) : impl_within.f n a b = some (decide (a ≤ n ∧ n ≤ b)) := by
 unfold impl_within.f
 by_cases h0 : a ≤ n <;> by_cases h1 : n ≤ b <;> simp [h0, h1]
theorem in_f (n a b : Int) : spec_l1In.f n a b = some (decide (a ≤ n ∧ n ≤ b)) := by
 unfold spec_l1In.f
 by_cases h0 : a ≤ n <;> by_cases h1 : n ≤ b <;> simp [h0, h1]
theorem implGood_l0 (s : SK) (M : Nat) (hM : ∀ p ∈ s.stored, p.f2.length ≤ M) (hM1 : s.pend.length ≤ M) (hM2 : s.out.length ≤ M) (hM3 : M ≤ 100000000) (h1 : s.src.length ≤ 30) (h2 : 0 ≤ s.at_) (h3 : s.at_ ≤ s.src.length) (h4 : 0 ≤ s.upto) (h5 : s.upto ≤ s.at_) (h6 : 0 ≤ s.last) (h7 : s.last ≤ 1000) (h8 : s.stored.length ≤ 4) (d : Nat) :
  ∀ (f i : Nat) (up : Int), i + d = s.stored.length → d + M + 1 < f → 0 ≤ up → up ≤ s.at_ →
   impl_GoodSink.l0 f up s.stored (s.stored.length : Int) (i : Int) s.src s.at_ s.pend s.stored s.out s.last s.upto = some (tailK s.src s.at_ s.upto s.pend s.out (chainK s.src s.at_ (s.last + i) up (s.stored.drop i))) := by
 induction d with
 | zero =>
  intro f i up hi hf hu0 hu1
  obtain ⟨f, rfl⟩ : ∃ m, f = m + 1 := ⟨f - 1, by omega⟩
  simp only [impl_GoodSink.l0]
  rw [if_neg (by omega), List.drop_eq_nil_of_le (by omega : s.stored.length ≤ i), if_pos (by omega), if_pos (by omega), equal_f _ _ (by omega) f (by omega)]
  simp only [Option.bind_some, chainK, tailK]
  by_cases ho : s.out = s.src.take s.upto.toNat
  ·rw [if_pos (by simpa using ho), if_pos (by omega), if_pos (by omega), if_pos (by omega), equal_f _ _ (by omega) f (by omega)]
   simp only [Option.bind_some, cutK]
   rw [decide_eq_true ho, Bool.and_true]
   first | rfl | (congr 1; exact decide_eq_decide.2 Iff.rfl)
  ·rw [if_neg (by simpa using ho)]
   simp [ho]
 | succ d ih =>
  intro f i up hi hf hu0 hu1
  obtain ⟨f, rfl⟩ : ∃ m, f = m + 1 := ⟨f - 1, by omega⟩
  have hlt : i < s.stored.length := by omega
  have hp := hM _ (List.getElem_mem hlt)
  simp only [impl_GoodSink.l0]
  rw [if_pos (by omega), if_pos (by omega), if_pos (by omega), rd68_at s.stored i hlt, drop_at s.stored i hlt, wrap_id (s.last + 1) (by omega) (by omega), wrap_id (s.last + 1 + (i : Int)) (by omega) (by omega), wrap_id ((i : Int) + 1) (by omega) (by omega)]
  generalize s.stored[i] = p at hp
  simp only [chainK]
  by_cases c1 : p.f0 = s.last + 1 + (i : Int)
  ·rw [if_pos c1]
   by_cases c2 : p.f0 > 1000
   ·rw [if_pos c2, if_neg (by omega)]; rfl
   ·rw [if_neg c2, within_f]
    simp only [Option.bind_some]
    by_cases c3 : up ≤ p.f1 ∧ p.f1 ≤ s.at_
    ·rw [if_pos (by simpa using c3), if_pos (by omega), if_pos (by omega), if_pos (by omega), equal_f _ _ (by omega) f (by omega)]
     simp only [Option.bind_some]
     by_cases c4 : p.f2 = cutK s.src up p.f1
     ·rw [if_pos (by simpa [cutK] using c4), if_pos ⟨by omega, by omega, c3.1, c3.2, c4⟩, show (i : Int) + 1 = ((i + 1 : Nat) : Int) from by omega, ih f (i + 1) p.f1 (by omega) (by omega) (by omega) (by omega), show s.last + ((i + 1 : Nat) : Int) = p.f0 from by omega]
     ·rw [if_neg (by simpa [cutK] using c4), if_neg (fun h => c4 h.2.2.2.2)]; rfl
    ·rw [if_neg (by simpa using c3), if_neg (fun h => c3 ⟨h.2.2.1, h.2.2.2.1⟩)]; rfl
  ·rw [if_neg c1, if_neg (fun h => c1 (by omega))]; rfl
theorem implGood_f (s : SK) (M : Nat) (hM : ∀ p ∈ s.stored, p.f2.length ≤ M) (hM1 : s.pend.length ≤ M) (hM2 : s.out.length ≤ M) (hM3 : M ≤ 100000000) (k : Nat) (hk : M + 8 < k) : impl_GoodSink.f k s.src s.at_ s.pend s.stored s.out s.last s.upto = some (goodK s) := by
 obtain ⟨k, rfl⟩ : ∃ m, k = m + 1 := ⟨k - 1, by omega⟩
 unfold impl_GoodSink.f goodK
 have hno : ∀ (X : Option Bool), (impl_GoodSink.j0 (k + 1) true s.src s.at_ s.pend s.stored s.out s.last s.upto) = some false := fun X => by simp [impl_GoodSink.j0]
 by_cases h1 : s.src.length ≤ 30
 ·rw [if_neg (by omega), within_f]
  simp only [Option.bind_some]
  by_cases h2 : 0 ≤ s.at_ ∧ s.at_ ≤ s.src.length
  ·rw [if_pos (by simpa using h2), within_f]
   simp only [Option.bind_some]
   by_cases h3 : 0 ≤ s.upto ∧ s.upto ≤ s.at_
   ·rw [if_pos (by simpa using h3)]
    by_cases h4 : s.stored.length ≤ 4
    ·rw [if_neg (by omega), within_f]
     simp only [Option.bind_some]
     by_cases h5 : 0 ≤ s.last ∧ s.last ≤ 1000
     ·have e5 : decide (0 ≤ s.last ∧ s.last ≤ 1000) = true := decide_eq_true h5
      rw [e5, decide_eq_true ⟨h1, h2.1, h2.2, h3.1, h3.2, h5.1, h5.2, h4⟩]
      simp only [Bool.not_true, impl_GoodSink.j0, Bool.true_and]
      rw [if_neg (by simp)]
      have := implGood_l0 s M hM hM1 hM2 hM3 h1 h2.1 h2.2 h3.1 h3.2 h5.1 h5.2 h4 s.stored.length k 0 s.upto (by omega) (by omega) h3.1 h3.2
      simpa using this
     ·have e5 : decide (0 ≤ s.last ∧ s.last ≤ 1000) = false := decide_eq_false h5
      rw [e5, decide_eq_false (fun h => h5 ⟨h.2.2.2.2.2.1, h.2.2.2.2.2.2.1⟩)]
      simp [impl_GoodSink.j0]
    ·rw [if_pos (by omega), hno none, decide_eq_false (fun h => h4 h.2.2.2.2.2.2.2)]; rfl
   ·rw [if_neg (by simpa using h3), hno none, decide_eq_false (fun h => h3 ⟨h.2.2.2.1, h.2.2.2.2.1⟩)]; rfl
  ·rw [if_neg (by simpa using h2), hno none, decide_eq_false (fun h => h2 ⟨h.2.1, h.2.2.1⟩)]; rfl
 ·rw [if_pos (by omega), hno none, decide_eq_false (fun h => h1 h.1)]; rfl
theorem specGood_l0 (s : SK) (M : Nat) (hM : ∀ p ∈ s.stored, p.f2.length ≤ M) (hM1 : s.pend.length ≤ M) (hM2 : s.out.length ≤ M) (hM3 : M ≤ 100000000) (h1 : s.src.length ≤ 30) (h2 : 0 ≤ s.at_) (h3 : s.at_ ≤ s.src.length) (h4 : 0 ≤ s.upto) (h5 : s.upto ≤ s.at_) (h8 : s.stored.length ≤ 4) (d : Nat) :
  ∀ (f i : Nat) (up no : Int), i + d = s.stored.length → d + M + 1 < f → 0 ≤ up → up ≤ s.at_ → 0 ≤ no → no ≤ 1000 →
   spec_GoodSink.l0 f up no s.stored (s.stored.length : Int) (i : Int) s.src s.at_ s.pend s.stored s.out s.last s.upto = some (tailK s.src s.at_ s.upto s.pend s.out (chainK s.src s.at_ no up (s.stored.drop i))) := by
 induction d with
 | zero =>
  intro f i up no hi hf hu0 hu1 hn0 hn1
  obtain ⟨f, rfl⟩ : ∃ m, f = m + 1 := ⟨f - 1, by omega⟩
  simp only [spec_GoodSink.l0]
  rw [if_neg (by omega), List.drop_eq_nil_of_le (by omega : s.stored.length ≤ i), if_pos (by omega), if_pos (by omega), if_pos (by omega), same_f _ _ (by omega) f (by omega)]
  simp only [Option.bind_some, chainK, tailK]
  by_cases ho : s.pend = cutK s.src up s.at_
  ·rw [if_pos (by simpa [cutK] using ho), if_pos (by omega), if_pos (by omega), same_f _ _ (by omega) f (by omega)]
   simp [ho]
  ·rw [if_neg (by simpa [cutK] using ho)]
   simp [ho]
 | succ d ih =>
  intro f i up no hi hf hu0 hu1 hn0 hn1
  obtain ⟨f, rfl⟩ : ∃ m, f = m + 1 := ⟨f - 1, by omega⟩
  have hlt : i < s.stored.length := by omega
  have hp := hM _ (List.getElem_mem hlt)
  simp only [spec_GoodSink.l0]
  rw [if_pos (by omega), if_pos (by omega), if_pos (by omega), rd68_at s.stored i hlt, drop_at s.stored i hlt, wrap_id (no + 1) (by omega) (by omega), wrap_id ((i : Int) + 1) (by omega) (by omega)]
  generalize s.stored[i] = p at hp
  simp only [chainK]
  by_cases c1 : p.f0 = no + 1
  ·rw [if_pos c1, in_f]
   simp only [Option.bind_some]
   by_cases c3 : up ≤ p.f1 ∧ p.f1 ≤ s.at_
   ·rw [if_pos (by simpa using c3), if_pos (by omega), if_pos (by omega), if_pos (by omega), same_f _ _ (by omega) f (by omega)]
    simp only [Option.bind_some]
    by_cases c4 : p.f2 = cutK s.src up p.f1
    ·rw [if_pos (by simpa [cutK] using c4)]
     by_cases c2 : p.f0 > 1000
     ·rw [if_pos c2, if_neg (by omega)]; rfl
     ·rw [if_neg c2, if_pos ⟨c1, by omega, c3.1, c3.2, c4⟩, show (i : Int) + 1 = ((i + 1 : Nat) : Int) from by omega]
      exact ih f (i + 1) p.f1 p.f0 (by omega) (by omega) (by omega) (by omega) (by omega) (by omega)
    ·rw [if_neg (by simpa [cutK] using c4), if_neg (fun h => c4 h.2.2.2.2)]; rfl
   ·rw [if_neg (by simpa using c3), if_neg (fun h => c3 ⟨h.2.2.1, h.2.2.2.1⟩)]; rfl
  ·rw [if_neg c1, if_neg (fun h => c1 h.1)]; rfl
theorem specGood_f (s : SK) (M : Nat) (hM : ∀ p ∈ s.stored, p.f2.length ≤ M) (hM1 : s.pend.length ≤ M) (hM2 : s.out.length ≤ M) (hM3 : M ≤ 100000000) (k : Nat) (hk : M + 8 < k) : spec_GoodSink.f k s.src s.at_ s.pend s.stored s.out s.last s.upto = some (goodK s) := by
 obtain ⟨k, rfl⟩ : ∃ m, k = m + 1 := ⟨k - 1, by omega⟩
 unfold spec_GoodSink.f goodK
 have hno : ∀ (X : Option Bool), (spec_GoodSink.j0 (k + 1) true s.src s.at_ s.pend s.stored s.out s.last s.upto) = some false := fun X => by simp [spec_GoodSink.j0]
 by_cases h1 : s.src.length ≤ 30
 ·rw [if_neg (by omega), in_f]
  simp only [Option.bind_some]
  by_cases h2 : 0 ≤ s.at_ ∧ s.at_ ≤ s.src.length
  ·rw [if_pos (by simpa using h2), in_f]
   simp only [Option.bind_some]
   by_cases h3 : 0 ≤ s.upto ∧ s.upto ≤ s.at_
   ·rw [if_pos (by simpa using h3), in_f]
    simp only [Option.bind_some]
    by_cases h5 : 0 ≤ s.last ∧ s.last ≤ 1000
    ·rw [if_pos (by simpa using h5)]
     by_cases h4 : s.stored.length ≤ 4
     ·rw [decide_eq_false (by omega : ¬ (s.stored.length : Int) > 4), decide_eq_true ⟨h1, h2.1, h2.2, h3.1, h3.2, h5.1, h5.2, h4⟩]
      simp only [spec_GoodSink.j0, Bool.true_and]
      rw [if_neg (by simp)]
      have := specGood_l0 s M hM hM1 hM2 hM3 h1 h2.1 h2.2 h3.1 h3.2 h4 s.stored.length k 0 s.upto s.last (by omega) (by omega) h3.1 h3.2 h5.1 h5.2
      simpa using this
     ·rw [decide_eq_true (by omega : (s.stored.length : Int) > 4), hno none, decide_eq_false (fun h => h4 h.2.2.2.2.2.2.2)]; rfl
    ·rw [if_neg (by simpa using h5), hno none, decide_eq_false (fun h => h5 ⟨h.2.2.2.2.2.1, h.2.2.2.2.2.2.1⟩)]; rfl
   ·rw [if_neg (by simpa using h3), hno none, decide_eq_false (fun h => h3 ⟨h.2.2.2.1, h.2.2.2.2.1⟩)]; rfl
  ·rw [if_neg (by simpa using h2), hno none, decide_eq_false (fun h => h2 ⟨h.2.1, h.2.2.1⟩)]; rfl
 ·rw [if_pos (by omega), hno none, decide_eq_false (fun h => h1 h.1)]; rfl
/-! ### sinks in new memory -/
theorem clone_f (l : List Int) (h : l.length ≤ 100000000) : slices_Clone_int_int.f l = some l := by
 unfold slices_Clone_int_int.f
 rw [if_pos (by omega)]
theorem mk68 (p : S68) : (⟨p.f0, p.f1, p.f2⟩ : S68) = p := rfl
theorem implOwn_l0 (s : SK) (hl : s.stored.length ≤ 10000000) (hM : ∀ p ∈ s.stored, p.f2.length ≤ 100000000) (d : Nat) : ∀ (f i : Nat) (x : List S68), x = s.stored.take i → i + d = s.stored.length → d < f →
  impl_Sink_own.l0 f x s.stored (s.stored.length : Int) (i : Int) s.src s.at_ s.pend s.stored s.out s.last s.upto = some (s.src, s.at_, s.pend, s.stored, s.out, s.last, s.upto) := by
 induction d with
 | zero =>
  intro f i x hx hi hf
  obtain ⟨f, rfl⟩ : ∃ m, f = m + 1 := ⟨f - 1, by omega⟩
  simp only [impl_Sink_own.l0]
  rw [if_neg (by omega), hx, List.take_of_length_le (by omega)]
 | succ d ih =>
  intro f i x hx hi hf
  obtain ⟨f, rfl⟩ : ∃ m, f = m + 1 := ⟨f - 1, by omega⟩
  have hlt : i < s.stored.length := by omega
  have hp := hM _ (List.getElem_mem hlt)
  simp only [impl_Sink_own.l0]
  rw [if_pos (by omega), if_pos (by omega), if_pos (by omega), rd68_at s.stored i hlt, clone_f _ hp]
  simp only [Option.bind_some]
  rw [if_pos (by rw [hx, List.length_take]; omega), mk68, wrap_id ((i : Int) + 1) (by omega) (by omega), show (i : Int) + 1 = ((i + 1 : Nat) : Int) from by omega]
  exact ih f (i + 1) _ (by rw [hx, List.take_succ_eq_append_getElem hlt]) (by omega) (by omega)
theorem implOwn_f (s : SK) (h1 : s.src.length ≤ 100000000) (h2 : s.pend.length ≤ 100000000) (h3 : s.out.length ≤ 100000000) (hl : s.stored.length ≤ 10000000) (hM : ∀ p ∈ s.stored, p.f2.length ≤ 100000000) (k : Nat) (hk : s.stored.length < k) :
  impl_Sink_own.f k s.src s.at_ s.pend s.stored s.out s.last s.upto = some (s.src, s.at_, s.pend, s.stored, s.out, s.last, s.upto) := by
 unfold impl_Sink_own.f
 rw [clone_f _ h1, clone_f _ h2, clone_f _ h3]
 simp only [Option.bind_some]
 exact implOwn_l0 s hl hM s.stored.length k 0 _ (by simp) (by omega) hk
theorem specOwn_l0 (s : SK) (hl : s.stored.length ≤ 10000000) (hM : ∀ p ∈ s.stored, p.f2.length ≤ 100000000) (d : Nat) : ∀ (f i : Nat) (x : List S68), x = s.stored.take i → i + d = s.stored.length → d < f →
  spec_l16Own.l0 f x s.stored (s.stored.length : Int) (i : Int) s.src s.at_ s.pend s.stored s.out s.last s.upto = some (s.src, s.at_, s.pend, s.stored, s.out, s.last, s.upto) := by
 induction d with
 | zero =>
  intro f i x hx hi hf
  obtain ⟨f, rfl⟩ : ∃ m, f = m + 1 := ⟨f - 1, by omega⟩
  simp only [spec_l16Own.l0]
  rw [if_neg (by omega), hx, List.take_of_length_le (by omega)]
 | succ d ih =>
  intro f i x hx hi hf
  obtain ⟨f, rfl⟩ : ∃ m, f = m + 1 := ⟨f - 1, by omega⟩
  have hlt : i < s.stored.length := by omega
  have hp := hM _ (List.getElem_mem hlt)
  simp only [spec_l16Own.l0]
  rw [if_pos (by omega), if_pos (by omega), if_pos (by omega), rd68_at s.stored i hlt]
  simp only [Option.bind_some, List.length_nil, List.nil_append]
  rw [if_pos (by omega), if_pos (by rw [hx, List.length_take]; omega), mk68, wrap_id ((i : Int) + 1) (by omega) (by omega), show (i : Int) + 1 = ((i + 1 : Nat) : Int) from by omega]
  exact ih f (i + 1) _ (by rw [hx, List.take_succ_eq_append_getElem hlt]) (by omega) (by omega)
theorem specOwn_f (s : SK) (h1 : s.src.length ≤ 100000000) (h2 : s.pend.length ≤ 100000000) (h3 : s.out.length ≤ 100000000) (hl : s.stored.length ≤ 10000000) (hM : ∀ p ∈ s.stored, p.f2.length ≤ 100000000) (k : Nat) (hk : s.stored.length < k) :
  spec_l16Own.f k s.src s.at_ s.pend s.stored s.out s.last s.upto = some (s.src, s.at_, s.pend, s.stored, s.out, s.last, s.upto) := by
 unfold spec_l16Own.f
 simp only [Option.bind_some, List.length_nil, List.nil_append]
 rw [if_pos (by omega), if_pos (by omega), if_pos (by omega)]
 exact specOwn_l0 s hl hM s.stored.length k 0 _ (by simp) (by omega) hk
end Go.Proofs.Ytjndadjhhknggaa.Q
end
section
/- Sinks that are read, sinks in new memory: the contracts of GoodSink and own, the program's and the specification's. -/
namespace Go.Proofs.Ytjndadjhhknggaa.Q
open Go.RowKit Go.Proofs.YtjndadjhhknggaaW.PrintWords Go.Proofs.YtjndadjhhknggaaW.PrintLast
set_option linter.unusedVariables false
set_option linter.unusedSimpArgs false

/-- A sink whose rows are read. -/
structure SinkC (W : World) (s : SK) (A0 A2 A3 A4 : Option Addr) (c0 c2 c3 c4 : Nat) : Prop where
 r0 : Kd.C (Kd.int .i64) W A0 s.src.length s.src
 l0 : s.src.length ≤ c0
 r2 : Kd.C (Kd.int .i64) W A2 s.pend.length s.pend
 l2 : s.pend.length ≤ c2
 r3 : Kd.C k68 W A3 s.stored.length s.stored
 l3 : s.stored.length ≤ c3
 r4 : Kd.C (Kd.int .i64) W A4 s.out.length s.out
 l4 : s.out.length ≤ c4
theorem SinkC.below {W W' : World} {s : SK} {A0 A2 A3 A4 : Option Addr} {c0 c2 c3 c4 : Nat} (h : SinkC W s A0 A2 A3 A4 c0 c2 c3 c4) (hb : Below W.heap.size W W') : SinkC W' s A0 A2 A3 A4 c0 c2 c3 c4 :=
 ⟨Kd.C_below h.r0 hb, h.l0, Kd.C_below h.r2 hb, h.l2, Kd.C_below h.r3 hb, h.l3, Kd.C_below h.r4 hb, h.l4⟩
theorem SinkRows.toC {W : World} {base : Nat} {f : Nat → Nat} {s : SK} {A0 A2 A3 A4 : Option Addr} {n0 n2 n3 n4 c0 c2 c3 c4 : Nat} (h : SinkRows W base f s (.slice A0 n0 c0) (.slice A2 n2 c2) (.slice A3 n3 c3) (.slice A4 n4 c4)) : SinkC W s A0 A2 A3 A4 c0 c2 c3 c4 ∧ n0 = s.src.length ∧ n2 = s.pend.length ∧ n3 = s.stored.length ∧ n4 = s.out.length := by
 have h0 := Kd.R_reads' h.r0
 have h2 := Kd.R_reads' h.r2
 have h3 := Kd.Q_reads' h.r3
 have h4 := Kd.R_reads' h.r4
 exact ⟨⟨h0.2.2, by omega, h2.2.2, by omega, h3.2.2, by omega, h4.2.2, by omega⟩, h0.1, h2.1, h3.1, h4.1⟩
/-- Bounds under which a sink is copied. -/
structure Bnd (s : SK) : Prop where
 src : s.src.length ≤ 100000000
 pend : s.pend.length ≤ 100000000
 out : s.out.length ≤ 100000000
 stored : s.stored.length ≤ 10000000
 rows : ∀ p ∈ s.stored, p.f2.length ≤ 100000000
/-- A sink in new memory: its rows lie apart. -/
structure OwnRows (w : World) (base : Nat) (s : SK) (v0 v2 v3 v4 : Value) : Prop where
 r0 : Kd.R (Kd.int .i64) 3 w base (fun k_ => some k_ ≠ v2.ownBlock ∧ some k_ ≠ v4.ownBlock) v0 s.src
 r2 : Kd.R (Kd.int .i64) 3 w base (fun k_ => some k_ ≠ v0.ownBlock ∧ some k_ ≠ v4.ownBlock) v2 s.pend
 r3 : Kd.S k68 68 w base (fun k_ => some k_ ≠ v0.ownBlock ∧ some k_ ≠ v2.ownBlock ∧ some k_ ≠ v4.ownBlock) v3 s.stored
 r4 : Kd.R (Kd.int .i64) 3 w base (fun k_ => some k_ ≠ v0.ownBlock ∧ some k_ ≠ v2.ownBlock) v4 s.out
def ownCol (v0 v2 v4 : Value) (k : Nat) : Nat := if v0.ownBlock = some k then 0 else if v2.ownBlock = some k then 2 else if v4.ownBlock = some k then 4 else 3
theorem R_self {w : World} {base : Nat} {ok : Nat → Prop} {v : Value} {xs : List Int} (h : Kd.R (Kd.int .i64) 3 w base ok v xs) {ok' : Nat → Prop} (ho : ∀ k, v.ownBlock = some k → ok' k) : Kd.R (Kd.int .i64) 3 w base ok' v xs := ⟨ho, h.2⟩
theorem OwnRows.toRows {w : World} {base : Nat} {s : SK} {v0 v2 v3 v4 : Value} (h : OwnRows w base s v0 v2 v3 v4) : SinkRows w base (ownCol v0 v2 v4) s v0 v2 v3 v4 := by
 refine ⟨R_self h.r0 fun k hk => by simp [ownCol, hk], R_self h.r2 fun k hk => ?_, Kd.Q_of_R (Kd.R_mono (Kd.S_R h.r3) fun k hk => ?_), R_self h.r4 fun k hk => ?_⟩
 ·have h1 := h.r2.1 k hk
  unfold ownCol
  rw [if_neg (fun e => h1.1 e.symm), if_pos hk]
 ·unfold ownCol
  rw [if_neg (fun e => hk.1 e.symm), if_neg (fun e => hk.2.1 e.symm), if_neg (fun e => hk.2.2 e.symm)]
 ·have h1 := h.r4.1 k hk
  unfold ownCol
  rw [if_neg (fun e => h1.1 e.symm), if_neg (fun e => h1.2 e.symm), if_pos hk]
theorem OwnRows.below {w w' : World} {base : Nat} {s : SK} {v0 v2 v3 v4 : Value} (h : OwnRows w base s v0 v2 v3 v4) (hb : Below w.heap.size w w') : OwnRows w' base s v0 v2 v3 v4 := ⟨Kd.R_below h.r0 hb, Kd.R_below h.r2 hb, Kd.S_below h.r3 hb, Kd.R_below h.r4 hb⟩
section
variable (s : SK) (A0 A2 A3 A4 : Option Addr) (c0 c2 c3 c4 : Nat) (w : World)
theorem implOwn_calls (h : SinkC w s A0 A2 A3 A4 c0 c2 c3 c4) (hb : Bnd s) :
  Calls Try.prog 41 #[.agg #[.slice A0 s.src.length c0, .int .i64 s.at_, .slice A2 s.pend.length c2, .slice A3 s.stored.length c3, .slice A4 s.out.length c4, .int .i64 s.last, .int .i64 s.upto]] w fun e w' => ∃ v0 v2 v3 v4 : Value, e = .returned (.agg #[v0, .int .i64 s.at_, v2, v3, v4, .int .i64 s.last, .int .i64 s.upto]) ∧ OwnRows w' w.heap.size s v0 v2 v3 v4 ∧ Below w.heap.size w w' :=
 (impl_Sink_own.calls (s.stored.length + 1) A0 c0 s.src s.at_ A2 c2 s.pend A3 c3 s.stored A4 c4 s.out s.last s.upto _ _ _ _ _ _ _ w h.r0 h.l0 h.r2 h.l2 h.r3 h.l3 h.r4 h.l4 (implOwn_f s hb.src hb.pend hb.out hb.stored hb.rows _ (Nat.lt_succ_self _))).mono fun e w' ⟨v0, v2, v3, v4, he, h0, h2, h3, h4, hb⟩ => ⟨v0, v2, v3, v4, he, ⟨h0, h2, h3, h4⟩, hb⟩
theorem specOwn_calls (h : SinkC w s A0 A2 A3 A4 c0 c2 c3 c4) (hb : Bnd s) :
  Calls Try.prog 44 #[.agg #[.slice A0 s.src.length c0, .int .i64 s.at_, .slice A2 s.pend.length c2, .slice A3 s.stored.length c3, .slice A4 s.out.length c4, .int .i64 s.last, .int .i64 s.upto]] w fun e w' => ∃ v0 v2 v3 v4 : Value, e = .returned (.agg #[v0, .int .i64 s.at_, v2, v3, v4, .int .i64 s.last, .int .i64 s.upto]) ∧ OwnRows w' w.heap.size s v0 v2 v3 v4 ∧ Below w.heap.size w w' :=
 (spec_l16Own.calls (s.stored.length + 1) A0 c0 s.src s.at_ A2 c2 s.pend A3 c3 s.stored A4 c4 s.out s.last s.upto _ _ _ _ _ _ _ w h.r0 h.l0 h.r2 h.l2 h.r3 h.l3 h.r4 h.l4 (specOwn_f s hb.src hb.pend hb.out hb.stored hb.rows _ (Nat.lt_succ_self _))).mono fun e w' ⟨v0, v2, v3, v4, he, h0, h2, h3, h4, hb⟩ => ⟨v0, v2, v3, v4, he, ⟨h0, h2, h3, h4⟩, hb⟩
theorem implGood_calls (h : SinkC w s A0 A2 A3 A4 c0 c2 c3 c4) (hb : Bnd s) : Calls Try.prog 15 #[.agg #[.slice A0 s.src.length c0, .int .i64 s.at_, .slice A2 s.pend.length c2, .slice A3 s.stored.length c3, .slice A4 s.out.length c4, .int .i64 s.last, .int .i64 s.upto]] w fun e w' => e = .returned (.bool (goodK s)) ∧ Below w.heap.size w w' :=
 impl_GoodSink.calls (100000000 + 9) A0 c0 s.src s.at_ A2 c2 s.pend A3 c3 s.stored A4 c4 s.out s.last s.upto _ w h.r0 h.l0 h.r2 h.l2 h.r3 h.l3 h.r4 h.l4 (implGood_f s 100000000 hb.rows hb.pend hb.out (Nat.le_refl _) _ (by omega))
theorem specGood_calls (h : SinkC w s A0 A2 A3 A4 c0 c2 c3 c4) (hb : Bnd s) : Calls Try.prog 31 #[.agg #[.slice A0 s.src.length c0, .int .i64 s.at_, .slice A2 s.pend.length c2, .slice A3 s.stored.length c3, .slice A4 s.out.length c4, .int .i64 s.last, .int .i64 s.upto]] w fun e w' => e = .returned (.bool (goodK s)) ∧ Below w.heap.size w w' :=
 spec_GoodSink.calls (100000000 + 9) A0 c0 s.src s.at_ A2 c2 s.pend A3 c3 s.stored A4 c4 s.out s.last s.upto _ w h.r0 h.l0 h.r2 h.l2 h.r3 h.l3 h.r4 h.l4 (specGood_f s 100000000 hb.rows hb.pend hb.out (Nat.le_refl _) _ (by omega))
end
/-! ### good sinks are small -/
theorem chain_rows (src : List Int) (at_ : Int) (hs : src.length ≤ 30) (l : List S68) : ∀ (no up u : Int), chainK src at_ no up l = some u → ∀ p ∈ l, p.f2.length ≤ 30 := by
 induction l with
 | nil => intro no up u _ p hp; simp at hp
 | cons q l ih =>
  intro no up u h p hp
  simp only [chainK] at h
  split at h
  ·rename_i hc
   rcases List.mem_cons.1 hp with rfl | hp
   ·rw [hc.2.2.2.2]
    unfold cutK
    rw [List.length_drop, List.length_take]
    omega
   ·exact ih _ _ _ h p hp
  ·cases h
theorem good_parts {s : SK} (h : goodK s = true) : (s.src.length ≤ 30 ∧ 0 ≤ s.at_ ∧ s.at_ ≤ s.src.length ∧ 0 ≤ s.upto ∧ s.upto ≤ s.at_ ∧ 0 ≤ s.last ∧ s.last ≤ 1000 ∧ s.stored.length ≤ 4) ∧ ∃ up, chainK s.src s.at_ s.last s.upto s.stored = some up ∧ s.pend = cutK s.src up s.at_ ∧ s.out = s.src.take s.upto.toNat := by
 unfold goodK at h
 rw [Bool.and_eq_true, decide_eq_true_eq] at h
 refine ⟨h.1, ?_⟩
 have h2 := h.2
 unfold tailK at h2
 split at h2
 ·rename_i up hup
  simp only [Bool.and_eq_true, decide_eq_true_eq] at h2
  exact ⟨up, hup, h2.1, h2.2⟩
 ·cases h2
theorem good_ok {s : SK} (h : goodK s = true) : SKOk s := by
 obtain ⟨⟨h1, h2, h3, h4, h5, h6, h7, h8⟩, up, hc, hp, ho⟩ := good_parts h
 refine ⟨h2, h3, by omega, ?_, by omega, ?_, h6, by omega, fun p hp => by have := chain_rows s.src s.at_ h1 s.stored _ _ _ hc p hp; omega⟩
 ·rw [hp]; unfold cutK; rw [List.length_drop, List.length_take]; omega
 ·rw [ho, List.length_take]; omega
theorem SKOk.bnd {s : SK} (h : SKOk s) : Bnd s := ⟨by have := h.src; omega, by have := h.pend; omega, by have := h.out; omega, by have := h.stored; omega, fun p hp => by have := h.rows p hp; omega⟩
theorem step_bnd {s s' : SK} {kind : Int} (h : SKOk s) (hs : stepK s kind = some s') : Bnd s' := by
 have hb := h.bnd
 have b1 := h.src
 have b2 := h.pend
 have b3 := h.stored
 have b4 := h.out
 unfold stepK at hs
 split at hs
 ·split at hs
  ·cases hs
  ·injection hs with hs; subst hs
   exact ⟨hb.src, by simp; omega, hb.out, hb.stored, hb.rows⟩
 ·split at hs
  ·split at hs
   ·cases hs
   ·injection hs with hs; subst hs
    refine ⟨hb.src, by simp, hb.out, by simp; omega, fun p hp => ?_⟩
    rcases List.mem_append.1 hp with hp | hp
    ·exact hb.rows p hp
    ·simp at hp; subst hp; exact hb.pend
  ·split at hs
   ·split at hs
    ·cases hs
    ·rename_i p r hst
     injection hs with hs; subst hs
     have hpl := h.rows p (by rw [hst]; simp)
     refine ⟨hb.src, hb.pend, by simp; omega, ?_, fun q hq => hb.rows q (by rw [hst]; simp [hq])⟩
     have : s.stored.length = r.length + 1 := by rw [hst]; simp
     show r.length ≤ 10000000
     omega
   ·split at hs
    ·injection hs with hs; subst hs
     exact ⟨hb.src, by simp [crashK], hb.out, hb.stored, hb.rows⟩
    ·split at hs
     ·split at hs
      ·cases hs
      ·injection hs with hs; subst hs
       refine ⟨hb.src, by simp [crashK], hb.out, ?_, fun p hp => hb.rows p (List.mem_of_mem_take hp)⟩
       show (s.stored.take _).length ≤ 10000000
       rw [List.length_take]; omega
     ·cases hs
end Go.Proofs.Ytjndadjhhknggaa.Q
end
section
/- StepSink, the program's and the specification's. -/
namespace Go.Proofs.Ytjndadjhhknggaa.Q
open Go.RowKit Go.Proofs.YtjndadjhhknggaaW.PrintWords Go.Proofs.YtjndadjhhknggaaW.PrintLast
set_option linter.unusedVariables false
set_option linter.unusedSimpArgs false

def zeroK : SK := ⟨[], 0, [], [], [], 0, 0⟩
def stepTopK (s : SK) (kind : Int) : Option SK := if goodK s = true then stepK s kind else none
/-- A sink in new memory, and whether it is one. -/
def TopRet (w w' : World) (e : Ending) (o : Option SK) : Prop :=
 ∃ v0 v2 v3 v4 : Value, e = .returned (.tuple #[.agg #[v0, .int .i64 (o.getD zeroK).at_, v2, v3, v4, .int .i64 (o.getD zeroK).last, .int .i64 (o.getD zeroK).upto], .bool o.isSome]) ∧ OwnRows w' w.heap.size (o.getD zeroK) v0 v2 v3 v4 ∧ Below w.heap.size w w'
theorem zero_own (w : World) (base : Nat) : OwnRows w base zeroK (.slice none 0 0) (.slice none 0 0) (.slice none 0 0) (.slice none 0 0) :=
 ⟨Kd.R_nil _ _ _ _ _, Kd.R_nil _ _ _ _ _, Kd.S_nil _ _ _ _ _, Kd.R_nil _ _ _ _ _⟩
/-- The result's own block is filled, other rows stay. -/
theorem fill7 {W w0 : World} {g : Nat} {u0 u1 u2 u3 u4 u5 u6 : Value} (hz : W.heap[g]? = some (.cells #[u0, u1, u2, u3, u4, u5, u6] 28 (0, 0))) (hB : Below w0.heap.size w0 W) (hg : w0.heap.size ≤ g) (x0 x1 x2 x3 x4 x5 x6 : Value) :
  (((((((W.setCell ⟨g, 0, none⟩ x0).setCell ⟨g, 1, none⟩ x1).setCell ⟨g, 2, none⟩ x2).setCell ⟨g, 3, none⟩ x3).setCell ⟨g, 4, none⟩ x4).setCell ⟨g, 5, none⟩ x5).setCell ⟨g, 6, none⟩ x6).heap[g]? = some (.cells #[x0, x1, x2, x3, x4, x5, x6] 28 (0, 0)) ∧ Below w0.heap.size w0 (((((((W.setCell ⟨g, 0, none⟩ x0).setCell ⟨g, 1, none⟩ x1).setCell ⟨g, 2, none⟩ x2).setCell ⟨g, 3, none⟩ x3).setCell ⟨g, 4, none⟩ x4).setCell ⟨g, 5, none⟩ x5).setCell ⟨g, 6, none⟩ x6) ∧ (∀ k, k ≠ g → (((((((W.setCell ⟨g, 0, none⟩ x0).setCell ⟨g, 1, none⟩ x1).setCell ⟨g, 2, none⟩ x2).setCell ⟨g, 3, none⟩ x3).setCell ⟨g, 4, none⟩ x4).setCell ⟨g, 5, none⟩ x5).setCell ⟨g, 6, none⟩ x6).heap[k]? = W.heap[k]?) ∧ (((((((W.setCell ⟨g, 0, none⟩ x0).setCell ⟨g, 1, none⟩ x1).setCell ⟨g, 2, none⟩ x2).setCell ⟨g, 3, none⟩ x3).setCell ⟨g, 4, none⟩ x4).setCell ⟨g, 5, none⟩ x5).setCell ⟨g, 6, none⟩ x6).heap.size = W.heap.size := by
 have a1 := blk_put (cs' := #[x0, u1, u2, u3, u4, u5, u6]) hz 0 x0 rfl
 have a2 := blk_put (cs' := #[x0, x1, u2, u3, u4, u5, u6]) a1 1 x1 rfl
 have a3 := blk_put (cs' := #[x0, x1, x2, u3, u4, u5, u6]) a2 2 x2 rfl
 have a4 := blk_put (cs' := #[x0, x1, x2, x3, u4, u5, u6]) a3 3 x3 rfl
 have a5 := blk_put (cs' := #[x0, x1, x2, x3, x4, u5, u6]) a4 4 x4 rfl
 have a6 := blk_put (cs' := #[x0, x1, x2, x3, x4, x5, u6]) a5 5 x5 rfl
 refine ⟨blk_put a6 6 x6 rfl, ?_, fun k hk => ?_, by simp⟩
 ·exact ((((((hB.setCell (p := ⟨g, 0, none⟩) hg x0).setCell (p := ⟨g, 1, none⟩) hg x1).setCell (p := ⟨g, 2, none⟩) hg x2).setCell (p := ⟨g, 3, none⟩) hg x3).setCell (p := ⟨g, 4, none⟩) hg x4).setCell (p := ⟨g, 5, none⟩) hg x5).setCell (p := ⟨g, 6, none⟩) hg x6
 ·rw [Below.heap_setCell _ ⟨g, 6, none⟩ _ _ hk, Below.heap_setCell _ ⟨g, 5, none⟩ _ _ hk, Below.heap_setCell _ ⟨g, 4, none⟩ _ _ hk, Below.heap_setCell _ ⟨g, 3, none⟩ _ _ hk, Below.heap_setCell _ ⟨g, 2, none⟩ _ _ hk, Below.heap_setCell _ ⟨g, 1, none⟩ _ _ hk, Below.heap_setCell _ ⟨g, 0, none⟩ _ _ hk]
/-- Rows in new memory behind a write to a struct's own block. -/
theorem OwnRows.step {w w' : World} {base : Nat} {s : SK} {v0 v2 v3 v4 : Value} (h : OwnRows w base s v0 v2 v3 v4) {g : Nat} {cs : Array Value} (hg : w.heap[g]? = some (.cells cs 28 (0, 0))) (hw : ∀ k, k ≠ g → w'.heap[k]? = w.heap[k]?) : OwnRows w' base s v0 v2 v3 v4 := by
 have key : ∀ {k : Nat} {q : TypeId} {cells : Array Value}, w.heap[k]? = some (.cells cells q (0, 0)) → q ≠ 28 → w'.heap[k]? = w.heap[k]? := fun {k q cells} hc hq => hw k (by
  rintro rfl
  rw [hg] at hc
  injection hc with hc
  injection hc with _ hc
  exact hq hc.symm)
 have t3 : ∀ {k : Nat}, (base ≤ k ∧ k < w.heap.size ∧ ∃ q, q ∈ 3 :: (Kd.int .i64).E ∧ ∃ cells, w.heap[k]? = some (.cells cells q (0, 0))) → w'.heap[k]? = w.heap[k]? := fun ⟨_, _, q, hq, cells, hc⟩ => by
  have : q = 3 := by simpa [Kd.int, Kd.scalar] using hq
  exact key hc (by rw [this]; decide)
 have t68 : ∀ {k : Nat}, (base ≤ k ∧ k < w.heap.size ∧ ∃ q, q ∈ 68 :: k68.E ∧ ∃ cells, w.heap[k]? = some (.cells cells q (0, 0))) → w'.heap[k]? = w.heap[k]? := fun ⟨_, _, q, hq, cells, hc⟩ => by
  have hE : k68.E = [3] := rfl
  rw [hE] at hq
  have : q = 68 ∨ q = 3 := by simpa using hq
  exact key hc (by rcases this with rfl | rfl <;> decide)
 exact ⟨Kd.R_mono (Kd.R_move (Kd.R_bound h.r0) (fun k hk => t3 hk.2)) (fun _ hk => hk.1), Kd.R_mono (Kd.R_move (Kd.R_bound h.r2) (fun k hk => t3 hk.2)) (fun _ hk => hk.1), Kd.S_mono (Kd.S_move (Kd.S_bound h.r3) (fun k hk => t68 hk.2)) (fun _ hk => hk.1), Kd.R_mono (Kd.R_move (Kd.R_bound h.r4) (fun k hk => t3 hk.2)) (fun _ hk => hk.1)⟩
end Go.Proofs.Ytjndadjhhknggaa.Q
end
section
/- StepSink, the program's. -/
namespace Go.Proofs.Ytjndadjhhknggaa.Q
open Go.RowKit Go.Proofs.YtjndadjhhknggaaW.PrintWords Go.Proofs.YtjndadjhhknggaaW.PrintLast
set_option linter.unusedVariables false
set_option linter.unusedSimpArgs false

theorem OwnRows.slices {w : World} {base : Nat} {s : SK} {v0 v2 v3 v4 : Value} (h : OwnRows w base s v0 v2 v3 v4) : ∃ A0 c0 A2 c2 A3 c3 A4 c4, v0 = .slice A0 s.src.length c0 ∧ v2 = .slice A2 s.pend.length c2 ∧ v3 = .slice A3 s.stored.length c3 ∧ v4 = .slice A4 s.out.length c4 := by
 obtain ⟨A0, c0, e0⟩ := Kd.R_slice h.r0
 obtain ⟨A2, c2, e2⟩ := Kd.R_slice h.r2
 obtain ⟨A3, c3, e3⟩ := Kd.R_slice (Kd.S_R h.r3)
 obtain ⟨A4, c4, e4⟩ := Kd.R_slice h.r4
 exact ⟨A0, c0, A2, c2, A3, c3, A4, c4, e0, e2, e3, e4⟩
theorem SinkRows.slices {w : World} {base : Nat} {f : Nat → Nat} {s : SK} {v0 v2 v3 v4 : Value} (h : SinkRows w base f s v0 v2 v3 v4) : ∃ A0 c0 A2 c2 A3 c3 A4 c4, v0 = .slice A0 s.src.length c0 ∧ v2 = .slice A2 s.pend.length c2 ∧ v3 = .slice A3 s.stored.length c3 ∧ v4 = .slice A4 s.out.length c4 := by
 obtain ⟨A0, c0, e0⟩ := Kd.R_slice h.r0
 obtain ⟨A2, c2, e2⟩ := Kd.R_slice h.r2
 obtain ⟨A3, c3, e3, _⟩ := Kd.Q_slice h.r3
 obtain ⟨A4, c4, e4⟩ := Kd.R_slice h.r4
 exact ⟨A0, c0, A2, c2, A3, c3, A4, c4, e0, e2, e3, e4⟩
/-- A struct made anew. -/
theorem make28 (w : World) (s : SK) (v0 v2 v3 v4 : Value) :
  SinkBlk w.heap.size (w.alloc (.cells #[v0, .int .i64 s.at_, v2, v3, v4, .int .i64 s.last, .int .i64 s.upto] 28)) s v0 v2 v3 v4 ∧ Below w.heap.size w (w.alloc (.cells #[v0, .int .i64 s.at_, v2, v3, v4, .int .i64 s.last, .int .i64 s.upto] 28)) :=
 ⟨blk_new w _, below_alloc (Below.refl _ w) _⟩
theorem OwnRows.lower {w : World} {base base' : Nat} {s : SK} {v0 v2 v3 v4 : Value} (h : OwnRows w base s v0 v2 v3 v4) (hb : base' ≤ base) : OwnRows w base' s v0 v2 v3 v4 := ⟨Kd.R_lower h.r0 hb, Kd.R_lower h.r2 hb, Kd.S_lower h.r3 hb, Kd.R_lower h.r4 hb⟩
set_option maxHeartbeats 8000000 in
set_option maxRecDepth 100000 in
theorem implStepSink_calls (s : SK) (kind : Int) (A0 A2 A3 A4 : Option Addr) (c0 c2 c3 c4 : Nat) (w : World) (h : SinkC w s A0 A2 A3 A4 c0 c2 c3 c4) (hb : Bnd s) :
  Calls Try.prog 29 #[.agg #[.slice A0 s.src.length c0, .int .i64 s.at_, .slice A2 s.pend.length c2, .slice A3 s.stored.length c3, .slice A4 s.out.length c4, .int .i64 s.last, .int .i64 s.upto], .int .i64 kind] w fun e w' => TopRet w w' e (stepTopK s kind) := by
 obtain ⟨hg, hz, hb0⟩ := open28 w s (.slice A0 s.src.length c0) (.slice A2 s.pend.length c2) (.slice A3 s.stored.length c3) (.slice A4 s.out.length c4)
 have HR := Aside0.mk (h.below hb0)
 have HB := Aside0.mk hb0
 have HGOOD := Aside0.mk (fun (W : World) (h : SinkC W s A0 A2 A3 A4 c0 c2 c3 c4) => implGood_calls s A0 A2 A3 A4 c0 c2 c3 c4 W h hb)
 have HOWN := Aside0.mk (fun (W : World) (h : SinkC W s A0 A2 A3 A4 c0 c2 c3 c4) => implOwn_calls s A0 A2 A3 A4 c0 c2 c3 c4 W h hb)
 have hu28 := Try.underlying28
 clear hb0 hb h
 rcases (by cases goodK s <;> simp : goodK s = false ∨ goodK s = true) with hgd | hgd
 ·have ho : stepTopK s kind = none := by unfold stepTopK; rw [if_neg (by simp [hgd])]
  rw [ho]
  rw [hgd] at HGOOD
  clear ho hgd
  go_enter Try.func29, Try.ntmps29
  go_upto_region 1 with fail
  generalize hgw : w.heap.size = g at hg hz ⊢
  generalize (w.alloc (.cells #[.slice A0 s.src.length c0, .int .i64 s.at_, .slice A2 s.pend.length c2, .slice A3 s.stored.length c3, .slice A4 s.out.length c4, .int .i64 s.last, .int .i64 s.upto] 28)).alloc (.cells #[.slice none 0 0, .int .i64 0, .slice none 0 0, .slice none 0 0, .slice none 0 0, .int .i64 0, .int .i64 0] 28) = W at hg hz HR HB ⊢
  have HG := Aside0.mk hg
  have HZ := Aside0.mk hz
  have HGW := Aside0.mk hgw
  clear hg hz hgw
  obtain ⟨g0, g1, g2, g3, g4, g5, g6⟩ := cells7_ HG.out
  go_wp2_with fail
  go_at_call 15; refine (HGOOD.out _ HR.out).mono ?_; rintro e w1 ⟨rfl, hb1⟩
  have HZ1 := Aside0.mk (blk_below HZ.out hb1)
  have HB1 := Aside0.mk (below_then HB.out HB.out.size hb1)
  clear hb1 g0 g1 g2 g3 g4 g5 g6
  obtain ⟨z0, z1, z2, z3, z4, z5, z6⟩ := cells7_ HZ1.out
  have e0 := blk_frozen HZ1.out 0
  have e1 := blk_frozen HZ1.out 1
  have e2 := blk_frozen HZ1.out 2
  have e3 := blk_frozen HZ1.out 3
  have e4 := blk_frozen HZ1.out 4
  have e5 := blk_frozen HZ1.out 5
  have e6 := blk_frozen HZ1.out 6
  go_wp2
  clear z0 z1 z2 z3 z4 z5 z6 e0 e1 e2 e3 e4 e5 e6
  have hw := HGW.out
  subst hw
  obtain ⟨q1, q2, q3, -⟩ := fill7 HZ1.out HB1.out (Nat.le_succ _) (.slice none 0 0) (.int .i64 0) (.slice none 0 0) (.slice none 0 0) (.slice none 0 0) (.int .i64 0) (.int .i64 0)
  refine bodyPost_ret (results_ct rfl _ _ (w.heap.size + 1) 28 _ (0, 0) _ rfl q1 Try.underlying28 rfl (by kernel_rfl)) rfl ?_
  exact ⟨_, _, _, _, rfl, zero_own _ _, q2⟩
 ·have ho : stepTopK s kind = stepK s kind := by unfold stepTopK; rw [if_pos hgd]
  rw [ho]
  have HOK := Aside0.mk (good_ok hgd)
  rw [hgd] at HGOOD
  clear ho hgd
  rcases (by cases stepK s kind <;> simp : stepK s kind = none ∨ ∃ s', stepK s kind = some s') with hk | ⟨s', hk⟩
  ·have HK := Aside0.mk hk
   rw [hk]
   clear hk
   go_enter Try.func29, Try.ntmps29
   go_upto_region 1 with fail
   generalize hgw : w.heap.size = g at hg hz ⊢
   generalize (w.alloc (.cells #[.slice A0 s.src.length c0, .int .i64 s.at_, .slice A2 s.pend.length c2, .slice A3 s.stored.length c3, .slice A4 s.out.length c4, .int .i64 s.last, .int .i64 s.upto] 28)).alloc (.cells #[.slice none 0 0, .int .i64 0, .slice none 0 0, .slice none 0 0, .slice none 0 0, .int .i64 0, .int .i64 0] 28) = W at hg hz HR HB ⊢
   have HG := Aside0.mk hg
   have HZ := Aside0.mk hz
   have HGW := Aside0.mk hgw
   clear hg hz hgw
   obtain ⟨g0, g1, g2, g3, g4, g5, g6⟩ := cells7_ HG.out
   go_wp2_with fail
   go_at_call 15; refine (HGOOD.out _ HR.out).mono ?_; rintro e w1 ⟨rfl, hb1⟩
   have HG1 := Aside0.mk (HG.out.below hb1)
   have HZ1 := Aside0.mk (blk_below HZ.out hb1)
   have HR1 := Aside0.mk (HR.out.below hb1)
   have HB1 := Aside0.mk (below_then HB.out HB.out.size hb1)
   have HGS := Aside0.mk (show g + 1 < w1.heap.size from blk_lt HZ1.out)
   clear hb1 g0 g1 g2 g3 g4 g5 g6 HG HZ HR HB
   obtain ⟨g0, g1, g2, g3, g4, g5, g6⟩ := cells7_ HG1.out
   go_wp2_with fail
   go_at_call 41; refine (HOWN.out _ HR1.out).mono ?_; rintro e w2 ⟨v0, v2, v3, v4, rfl, hr2, hb2⟩
   obtain ⟨B0, d0, B2, d2, B3, d3, B4, d4, rfl, rfl, rfl, rfl⟩ := hr2.slices
   have HR2 := Aside0.mk hr2
   have HB2 := Aside0.mk hb2
   clear hr2 hb2 g0 g1 g2 g3 g4 g5 g6
   go_upto_region 4 with fail
   obtain ⟨hg3, hb3⟩ := make28 w2 s (.slice B0 s.src.length d0) (.slice B2 s.pend.length d2) (.slice B3 s.stored.length d3) (.slice B4 s.out.length d4)
   have hrow := (HR2.out.below hb3).toRows
   have hs2 := HB2.out.size
   have HB3 := Aside0.mk (below_then HB2.out hs2 hb3)
   generalize w2.heap.size = g2 at hg3 hs2 ⊢
   generalize w2.alloc (.cells #[.slice B0 s.src.length d0, .int .i64 s.at_, .slice B2 s.pend.length d2, .slice B3 s.stored.length d3, .slice B4 s.out.length d4, .int .i64 s.last, .int .i64 s.upto] 28) = w3 at hg3 hrow HB3 ⊢
   have HC := Aside0.mk (step_calls g2 s kind w1 w3 ⟨_, _, _, _, _, hg3, hrow⟩ HOK.out HB3.out hs2)
   have HBN := Aside0.mk (fun s' => step_bnd (s' := s') (kind := kind) HOK.out)
   have HS2 := Aside0.mk hs2
   clear hg3 hb3 hrow hs2
   have hk := HK.out
   rw [hk] at HC
   have HC2 : Aside0 (Calls Try.prog 40 #[.pointer (some ⟨g2, 0, none⟩), .int .i64 kind] w3 fun e w' => e = .returned (.bool false) ∧ SinkAt g2 w' w1.heap.size s ∧ Below w1.heap.size w1 w' ∧ Spare g2 w3 w') := ⟨HC.out⟩
   clear HC hk
   go_wp2_with fail
   go_at_call 40; refine HC2.out.mono ?_; rintro e w4 ⟨rfl, -, hb4, -⟩
   have HZ4 := Aside0.mk (blk_below HZ1.out hb4)
   have HB4 := Aside0.mk (below_then HB1.out HB1.out.size hb4)
   clear hb4 HC2
   obtain ⟨z0, z1, z2, z3, z4, z5, z6⟩ := cells7_ HZ4.out
   have e0 := blk_frozen HZ4.out 0
   have e1 := blk_frozen HZ4.out 1
   have e2 := blk_frozen HZ4.out 2
   have e3 := blk_frozen HZ4.out 3
   have e4 := blk_frozen HZ4.out 4
   have e5 := blk_frozen HZ4.out 5
   have e6 := blk_frozen HZ4.out 6
   go_wp2
   clear z0 z1 z2 z3 z4 z5 z6 e0 e1 e2 e3 e4 e5 e6
   have hw := HGW.out
   subst hw
   obtain ⟨q1, q2, q3, -⟩ := fill7 HZ4.out HB4.out (Nat.le_succ _) (.slice none 0 0) (.int .i64 0) (.slice none 0 0) (.slice none 0 0) (.slice none 0 0) (.int .i64 0) (.int .i64 0)
   refine bodyPost_ret (results_ct rfl _ _ (w.heap.size + 1) 28 _ (0, 0) _ rfl q1 Try.underlying28 rfl (by kernel_rfl)) rfl ?_
   exact ⟨_, _, _, _, rfl, zero_own _ _, q2⟩
  ·have HK := Aside0.mk hk
   rw [hk]
   clear hk
   go_enter Try.func29, Try.ntmps29
   go_upto_region 1 with fail
   generalize hgw : w.heap.size = g at hg hz ⊢
   generalize (w.alloc (.cells #[.slice A0 s.src.length c0, .int .i64 s.at_, .slice A2 s.pend.length c2, .slice A3 s.stored.length c3, .slice A4 s.out.length c4, .int .i64 s.last, .int .i64 s.upto] 28)).alloc (.cells #[.slice none 0 0, .int .i64 0, .slice none 0 0, .slice none 0 0, .slice none 0 0, .int .i64 0, .int .i64 0] 28) = W at hg hz HR HB ⊢
   have HG := Aside0.mk hg
   have HZ := Aside0.mk hz
   have HGW := Aside0.mk hgw
   clear hg hz hgw
   obtain ⟨g0, g1, g2, g3, g4, g5, g6⟩ := cells7_ HG.out
   go_wp2_with fail
   go_at_call 15; refine (HGOOD.out _ HR.out).mono ?_; rintro e w1 ⟨rfl, hb1⟩
   have HG1 := Aside0.mk (HG.out.below hb1)
   have HZ1 := Aside0.mk (blk_below HZ.out hb1)
   have HR1 := Aside0.mk (HR.out.below hb1)
   have HB1 := Aside0.mk (below_then HB.out HB.out.size hb1)
   have HGS := Aside0.mk (show g + 1 < w1.heap.size from blk_lt HZ1.out)
   clear hb1 g0 g1 g2 g3 g4 g5 g6 HG HZ HR HB
   obtain ⟨g0, g1, g2, g3, g4, g5, g6⟩ := cells7_ HG1.out
   go_wp2_with fail
   go_at_call 41; refine (HOWN.out _ HR1.out).mono ?_; rintro e w2 ⟨v0, v2, v3, v4, rfl, hr2, hb2⟩
   obtain ⟨B0, d0, B2, d2, B3, d3, B4, d4, rfl, rfl, rfl, rfl⟩ := hr2.slices
   have HR2 := Aside0.mk hr2
   have HB2 := Aside0.mk hb2
   clear hr2 hb2 g0 g1 g2 g3 g4 g5 g6
   go_upto_region 4 with fail
   obtain ⟨hg3, hb3⟩ := make28 w2 s (.slice B0 s.src.length d0) (.slice B2 s.pend.length d2) (.slice B3 s.stored.length d3) (.slice B4 s.out.length d4)
   have hrow := (HR2.out.below hb3).toRows
   have hs2 := HB2.out.size
   have HB3 := Aside0.mk (below_then HB2.out hs2 hb3)
   generalize w2.heap.size = g2 at hg3 hs2 ⊢
   generalize w2.alloc (.cells #[.slice B0 s.src.length d0, .int .i64 s.at_, .slice B2 s.pend.length d2, .slice B3 s.stored.length d3, .slice B4 s.out.length d4, .int .i64 s.last, .int .i64 s.upto] 28) = w3 at hg3 hrow HB3 ⊢
   have HC := Aside0.mk (step_calls g2 s kind w1 w3 ⟨_, _, _, _, _, hg3, hrow⟩ HOK.out HB3.out hs2)
   have HBN := Aside0.mk (fun s' => step_bnd (s' := s') (kind := kind) HOK.out)
   have HS2 := Aside0.mk hs2
   clear hg3 hb3 hrow hs2
   have hk := HK.out
   have hbn' := HBN.out _ hk
   rw [hk] at HC
   have HC2 : Aside0 (Calls Try.prog 40 #[.pointer (some ⟨g2, 0, none⟩), .int .i64 kind] w3 fun e w' => e = .returned (.bool true) ∧ SinkAt g2 w' w1.heap.size s' ∧ Below w1.heap.size w1 w' ∧ Spare g2 w3 w') := ⟨HC.out⟩
   have HBN' := Aside0.mk hbn'
   clear HC hk hbn' HBN
   go_wp2_with fail
   go_at_call 40; refine HC2.out.mono ?_; rintro e w4 ⟨rfl, ⟨f4, u0, u2, u3, u4, hg4, hr4⟩, hb4, -⟩
   have HZ4 := Aside0.mk (blk_below HZ1.out hb4)
   have HB4 := Aside0.mk (below_then HB1.out HB1.out.size hb4)
   obtain ⟨E0, k0, E2, k2, E3, k3, E4, k4, rfl, rfl, rfl, rfl⟩ := hr4.slices
   have HCK := Aside0.mk (implOwn_calls s' E0 E2 E3 E4 k0 k2 k3 k4 w4 hr4.toC.1 HBN'.out)
   have HGG := Aside0.mk (show w.heap.size ≤ w4.heap.size from Nat.le_trans HB1.out.size hb4.size)
   clear hb4 HC2 hr4
   obtain ⟨g0, g1, g2, g3, g4, g5, g6⟩ := cells7_ hg4
   clear hg4
   go_wp2_with fail
   go_at_call 41; refine HCK.out.mono ?_; rintro e w5 ⟨t0, t2, t3, t4, rfl, hr5, hb5⟩
   have HZ5 := Aside0.mk (blk_below HZ4.out hb5)
   have HB5 := Aside0.mk (below_then HB4.out HB4.out.size hb5)
   obtain ⟨F0, l0, F2, l2, F3, l3, F4, l4, rfl, rfl, rfl, rfl⟩ := hr5.slices
   have HR5 := Aside0.mk hr5
   clear hb5 hr5 g0 g1 g2 g3 g4 g5 g6
   obtain ⟨z0, z1, z2, z3, z4, z5, z6⟩ := cells7_ HZ5.out
   have e0 := blk_frozen HZ5.out 0
   have e1 := blk_frozen HZ5.out 1
   have e2 := blk_frozen HZ5.out 2
   have e3 := blk_frozen HZ5.out 3
   have e4 := blk_frozen HZ5.out 4
   have e5 := blk_frozen HZ5.out 5
   have e6 := blk_frozen HZ5.out 6
   go_wp2
   clear z0 z1 z2 z3 z4 z5 z6 e0 e1 e2 e3 e4 e5 e6
   have hw := HGW.out
   subst hw
   obtain ⟨q1, q2, q3, -⟩ := fill7 HZ5.out HB5.out (Nat.le_succ _) (.slice F0 s'.src.length l0) (.int .i64 s'.at_) (.slice F2 s'.pend.length l2) (.slice F3 s'.stored.length l3) (.slice F4 s'.out.length l4) (.int .i64 s'.last) (.int .i64 s'.upto)
   refine bodyPost_ret (results_ct rfl _ _ (w.heap.size + 1) 28 _ (0, 0) _ rfl q1 Try.underlying28 rfl (by kernel_rfl)) rfl ?_
   exact ⟨_, _, _, _, rfl, (HR5.out.step HZ5.out q3).lower HGG.out, q2⟩
end Go.Proofs.Ytjndadjhhknggaa.Q
end
section
/- StepSink, the specification's. -/
namespace Go.Proofs.Ytjndadjhhknggaa.Q
open Go.RowKit Go.Proofs.YtjndadjhhknggaaW.PrintWords Go.Proofs.YtjndadjhhknggaaW.PrintLast
set_option linter.unusedVariables false
set_option linter.unusedSimpArgs false

set_option maxHeartbeats 8000000 in
set_option maxRecDepth 100000 in
theorem specStepSink_calls (s : SK) (kind : Int) (A0 A2 A3 A4 : Option Addr) (c0 c2 c3 c4 : Nat) (w : World) (h : SinkC w s A0 A2 A3 A4 c0 c2 c3 c4) (hb : Bnd s) :
  Calls Try.prog 30 #[.agg #[.slice A0 s.src.length c0, .int .i64 s.at_, .slice A2 s.pend.length c2, .slice A3 s.stored.length c3, .slice A4 s.out.length c4, .int .i64 s.last, .int .i64 s.upto], .int .i64 kind] w fun e w' => TopRet w w' e (stepTopK s kind) := by
 obtain ⟨hg, hz, hb0⟩ := open28 w s (.slice A0 s.src.length c0) (.slice A2 s.pend.length c2) (.slice A3 s.stored.length c3) (.slice A4 s.out.length c4)
 have HR := Aside0.mk (h.below hb0)
 have HB := Aside0.mk hb0
 have HGOOD := Aside0.mk (fun (W : World) (h : SinkC W s A0 A2 A3 A4 c0 c2 c3 c4) => specGood_calls s A0 A2 A3 A4 c0 c2 c3 c4 W h hb)
 have HOWN := Aside0.mk (fun (W : World) (h : SinkC W s A0 A2 A3 A4 c0 c2 c3 c4) => specOwn_calls s A0 A2 A3 A4 c0 c2 c3 c4 W h hb)
 have hu28 := Try.underlying28
 clear hb0 hb h
 rcases (by cases goodK s <;> simp : goodK s = false ∨ goodK s = true) with hgd | hgd
 ·have ho : stepTopK s kind = none := by unfold stepTopK; rw [if_neg (by simp [hgd])]
  rw [ho]
  rw [hgd] at HGOOD
  clear ho hgd
  go_enter Try.func30, Try.ntmps30
  go_upto_region 1 with fail
  generalize hgw : w.heap.size = g at hg hz ⊢
  generalize (w.alloc (.cells #[.slice A0 s.src.length c0, .int .i64 s.at_, .slice A2 s.pend.length c2, .slice A3 s.stored.length c3, .slice A4 s.out.length c4, .int .i64 s.last, .int .i64 s.upto] 28)).alloc (.cells #[.slice none 0 0, .int .i64 0, .slice none 0 0, .slice none 0 0, .slice none 0 0, .int .i64 0, .int .i64 0] 28) = W at hg hz HR HB ⊢
  have HG := Aside0.mk hg
  have HZ := Aside0.mk hz
  have HGW := Aside0.mk hgw
  clear hg hz hgw
  obtain ⟨g0, g1, g2, g3, g4, g5, g6⟩ := cells7_ HG.out
  go_wp2_with fail
  go_at_call 31; refine (HGOOD.out _ HR.out).mono ?_; rintro e w1 ⟨rfl, hb1⟩
  have HZ1 := Aside0.mk (blk_below HZ.out hb1)
  have HB1 := Aside0.mk (below_then HB.out HB.out.size hb1)
  clear hb1 g0 g1 g2 g3 g4 g5 g6
  obtain ⟨z0, z1, z2, z3, z4, z5, z6⟩ := cells7_ HZ1.out
  have e0 := blk_frozen HZ1.out 0
  have e1 := blk_frozen HZ1.out 1
  have e2 := blk_frozen HZ1.out 2
  have e3 := blk_frozen HZ1.out 3
  have e4 := blk_frozen HZ1.out 4
  have e5 := blk_frozen HZ1.out 5
  have e6 := blk_frozen HZ1.out 6
  go_wp2
  clear z0 z1 z2 z3 z4 z5 z6 e0 e1 e2 e3 e4 e5 e6
  have hw := HGW.out
  subst hw
  obtain ⟨q1, q2, q3, -⟩ := fill7 HZ1.out HB1.out (Nat.le_succ _) (.slice none 0 0) (.int .i64 0) (.slice none 0 0) (.slice none 0 0) (.slice none 0 0) (.int .i64 0) (.int .i64 0)
  refine bodyPost_ret (results_ct rfl _ _ (w.heap.size + 1) 28 _ (0, 0) _ rfl q1 Try.underlying28 rfl (by kernel_rfl)) rfl ?_
  exact ⟨_, _, _, _, rfl, zero_own _ _, q2⟩
 ·have ho : stepTopK s kind = stepK s kind := by unfold stepTopK; rw [if_pos hgd]
  rw [ho]
  have HOK := Aside0.mk (good_ok hgd)
  rw [hgd] at HGOOD
  clear ho hgd
  rcases (by cases stepK s kind <;> simp : stepK s kind = none ∨ ∃ s', stepK s kind = some s') with hk | ⟨s', hk⟩
  ·have HK := Aside0.mk hk
   rw [hk]
   clear hk
   go_enter Try.func30, Try.ntmps30
   go_upto_region 1 with fail
   generalize hgw : w.heap.size = g at hg hz ⊢
   generalize (w.alloc (.cells #[.slice A0 s.src.length c0, .int .i64 s.at_, .slice A2 s.pend.length c2, .slice A3 s.stored.length c3, .slice A4 s.out.length c4, .int .i64 s.last, .int .i64 s.upto] 28)).alloc (.cells #[.slice none 0 0, .int .i64 0, .slice none 0 0, .slice none 0 0, .slice none 0 0, .int .i64 0, .int .i64 0] 28) = W at hg hz HR HB ⊢
   have HG := Aside0.mk hg
   have HZ := Aside0.mk hz
   have HGW := Aside0.mk hgw
   clear hg hz hgw
   obtain ⟨g0, g1, g2, g3, g4, g5, g6⟩ := cells7_ HG.out
   go_wp2_with fail
   go_at_call 31; refine (HGOOD.out _ HR.out).mono ?_; rintro e w1 ⟨rfl, hb1⟩
   have HG1 := Aside0.mk (HG.out.below hb1)
   have HZ1 := Aside0.mk (blk_below HZ.out hb1)
   have HR1 := Aside0.mk (HR.out.below hb1)
   have HB1 := Aside0.mk (below_then HB.out HB.out.size hb1)
   have HGS := Aside0.mk (show g + 1 < w1.heap.size from blk_lt HZ1.out)
   clear hb1 g0 g1 g2 g3 g4 g5 g6 HG HZ HR HB
   obtain ⟨g0, g1, g2, g3, g4, g5, g6⟩ := cells7_ HG1.out
   go_wp2_with fail
   go_at_call 44; refine (HOWN.out _ HR1.out).mono ?_; rintro e w2 ⟨v0, v2, v3, v4, rfl, hr2, hb2⟩
   obtain ⟨B0, d0, B2, d2, B3, d3, B4, d4, rfl, rfl, rfl, rfl⟩ := hr2.slices
   have HR2 := Aside0.mk hr2
   have HB2 := Aside0.mk hb2
   clear hr2 hb2 g0 g1 g2 g3 g4 g5 g6
   have HC := Aside0.mk (sstep_calls kind s _ B0 B2 B3 B4 d0 d2 d3 d4 w1 w2 HR2.out.toRows HOK.out HB2.out)
   have hk := HK.out
   rw [hk] at HC
   have HC2 : Aside0 (Calls Try.prog 43 #[.agg #[.slice B0 s.src.length d0, .int .i64 s.at_, .slice B2 s.pend.length d2, .slice B3 s.stored.length d3, .slice B4 s.out.length d4, .int .i64 s.last, .int .i64 s.upto], .int .i64 kind] w2 fun e w' => e = .returned (.tuple #[.agg #[.slice B0 s.src.length d0, .int .i64 s.at_, .slice B2 s.pend.length d2, .slice B3 s.stored.length d3, .slice B4 s.out.length d4, .int .i64 s.last, .int .i64 s.upto], .bool false]) ∧ Below w2.heap.size w2 w') := ⟨HC.out⟩
   clear HC hk
   go_wp2_with fail
   go_at_call 43; refine HC2.out.mono ?_; rintro e w3 ⟨rfl, hb3⟩
   have HZ3 := Aside0.mk (blk_below (blk_below HZ1.out HB2.out) hb3)
   have HB3 := Aside0.mk (below_then (below_then HB1.out HB1.out.size HB2.out) (Nat.le_trans HB1.out.size HB2.out.size) hb3)
   clear hb3 HC2
   go_upto_region 4 with fail
   obtain ⟨-, hb4⟩ := make28 w3 s (.slice B0 s.src.length d0) (.slice B2 s.pend.length d2) (.slice B3 s.stored.length d3) (.slice B4 s.out.length d4)
   have HZ4 := Aside0.mk (blk_below HZ3.out hb4)
   have HB4 := Aside0.mk (below_then HB3.out HB3.out.size hb4)
   generalize w3.alloc (.cells #[.slice B0 s.src.length d0, .int .i64 s.at_, .slice B2 s.pend.length d2, .slice B3 s.stored.length d3, .slice B4 s.out.length d4, .int .i64 s.last, .int .i64 s.upto] 28) = w4 at HZ4 HB4 ⊢
   clear hb4
   obtain ⟨z0, z1, z2, z3, z4, z5, z6⟩ := cells7_ HZ4.out
   have e0 := blk_frozen HZ4.out 0
   have e1 := blk_frozen HZ4.out 1
   have e2 := blk_frozen HZ4.out 2
   have e3 := blk_frozen HZ4.out 3
   have e4 := blk_frozen HZ4.out 4
   have e5 := blk_frozen HZ4.out 5
   have e6 := blk_frozen HZ4.out 6
   go_wp2
   clear z0 z1 z2 z3 z4 z5 z6 e0 e1 e2 e3 e4 e5 e6
   have hw := HGW.out
   subst hw
   obtain ⟨q1, q2, q3, -⟩ := fill7 HZ4.out HB4.out (Nat.le_succ _) (.slice none 0 0) (.int .i64 0) (.slice none 0 0) (.slice none 0 0) (.slice none 0 0) (.int .i64 0) (.int .i64 0)
   refine bodyPost_ret (results_ct rfl _ _ (w.heap.size + 1) 28 _ (0, 0) _ rfl q1 Try.underlying28 rfl (by kernel_rfl)) rfl ?_
   exact ⟨_, _, _, _, rfl, zero_own _ _, q2⟩
  ·have HK := Aside0.mk hk
   rw [hk]
   clear hk
   go_enter Try.func30, Try.ntmps30
   go_upto_region 1 with fail
   generalize hgw : w.heap.size = g at hg hz ⊢
   generalize (w.alloc (.cells #[.slice A0 s.src.length c0, .int .i64 s.at_, .slice A2 s.pend.length c2, .slice A3 s.stored.length c3, .slice A4 s.out.length c4, .int .i64 s.last, .int .i64 s.upto] 28)).alloc (.cells #[.slice none 0 0, .int .i64 0, .slice none 0 0, .slice none 0 0, .slice none 0 0, .int .i64 0, .int .i64 0] 28) = W at hg hz HR HB ⊢
   have HG := Aside0.mk hg
   have HZ := Aside0.mk hz
   have HGW := Aside0.mk hgw
   clear hg hz hgw
   obtain ⟨g0, g1, g2, g3, g4, g5, g6⟩ := cells7_ HG.out
   go_wp2_with fail
   go_at_call 31; refine (HGOOD.out _ HR.out).mono ?_; rintro e w1 ⟨rfl, hb1⟩
   have HG1 := Aside0.mk (HG.out.below hb1)
   have HZ1 := Aside0.mk (blk_below HZ.out hb1)
   have HR1 := Aside0.mk (HR.out.below hb1)
   have HB1 := Aside0.mk (below_then HB.out HB.out.size hb1)
   have HGS := Aside0.mk (show g + 1 < w1.heap.size from blk_lt HZ1.out)
   clear hb1 g0 g1 g2 g3 g4 g5 g6 HG HZ HR HB
   obtain ⟨g0, g1, g2, g3, g4, g5, g6⟩ := cells7_ HG1.out
   go_wp2_with fail
   go_at_call 44; refine (HOWN.out _ HR1.out).mono ?_; rintro e w2 ⟨v0, v2, v3, v4, rfl, hr2, hb2⟩
   obtain ⟨B0, d0, B2, d2, B3, d3, B4, d4, rfl, rfl, rfl, rfl⟩ := hr2.slices
   have HR2 := Aside0.mk hr2
   have HB2 := Aside0.mk hb2
   clear hr2 hb2 g0 g1 g2 g3 g4 g5 g6
   have HBN := Aside0.mk (fun s' => step_bnd (s' := s') (kind := kind) HOK.out)
   have HC := Aside0.mk (sstep_calls kind s _ B0 B2 B3 B4 d0 d2 d3 d4 w1 w2 HR2.out.toRows HOK.out HB2.out)
   have hk := HK.out
   have HBN' := Aside0.mk (HBN.out _ hk)
   rw [hk] at HC
   have HC2 : Aside0 (Calls Try.prog 43 #[.agg #[.slice B0 s.src.length d0, .int .i64 s.at_, .slice B2 s.pend.length d2, .slice B3 s.stored.length d3, .slice B4 s.out.length d4, .int .i64 s.last, .int .i64 s.upto], .int .i64 kind] w2 fun e w' => ∃ f' u0 u2 u3 u4, e = .returned (.tuple #[.agg #[u0, .int .i64 s'.at_, u2, u3, u4, .int .i64 s'.last, .int .i64 s'.upto], .bool true]) ∧ SinkRows w' w1.heap.size f' s' u0 u2 u3 u4 ∧ Below w1.heap.size w1 w' ∧ Spare0 w2 w') := ⟨HC.out⟩
   clear HC hk HBN
   go_wp2_with fail
   go_at_call 43; refine HC2.out.mono ?_; rintro e w3 ⟨f3, u0, u2, u3, u4, rfl, hr3, hb3, -⟩
   obtain ⟨E0, k0, E2, k2, E3, k3, E4, k4, rfl, rfl, rfl, rfl⟩ := hr3.slices
   have HR3 := Aside0.mk hr3
   have HZ3 := Aside0.mk (blk_below HZ1.out hb3)
   have HB3 := Aside0.mk (below_then HB1.out HB1.out.size hb3)
   clear hb3 hr3 HC2
   go_upto_region 4 with fail
   obtain ⟨hg4, hb4⟩ := make28 w3 s' (.slice E0 s'.src.length k0) (.slice E2 s'.pend.length k2) (.slice E3 s'.stored.length k3) (.slice E4 s'.out.length k4)
   have HZ4 := Aside0.mk (blk_below HZ3.out hb4)
   have HB4 := Aside0.mk (below_then HB3.out HB3.out.size hb4)
   have hr4 := HR3.out.below hb4
   have HGG := Aside0.mk (show w.heap.size ≤ (w3.alloc (.cells #[.slice E0 s'.src.length k0, .int .i64 s'.at_, .slice E2 s'.pend.length k2, .slice E3 s'.stored.length k3, .slice E4 s'.out.length k4, .int .i64 s'.last, .int .i64 s'.upto] 28)).heap.size from Nat.le_trans HB3.out.size hb4.size)
   generalize w3.alloc (.cells #[.slice E0 s'.src.length k0, .int .i64 s'.at_, .slice E2 s'.pend.length k2, .slice E3 s'.stored.length k3, .slice E4 s'.out.length k4, .int .i64 s'.last, .int .i64 s'.upto] 28) = w4 at HZ4 HB4 hg4 hr4 HGG ⊢
   generalize w3.heap.size = g2 at hg4 ⊢
   have HCK := Aside0.mk (specOwn_calls s' E0 E2 E3 E4 k0 k2 k3 k4 w4 hr4.toC.1 HBN'.out)
   clear hb4 hr4
   obtain ⟨g0, g1, g2, g3, g4, g5, g6⟩ := cells7_ hg4
   clear hg4
   go_wp2_with fail
   go_at_call 44; refine HCK.out.mono ?_; rintro e w5 ⟨t0, t2, t3, t4, rfl, hr5, hb5⟩
   have HZ5 := Aside0.mk (blk_below HZ4.out hb5)
   have HB5 := Aside0.mk (below_then HB4.out HB4.out.size hb5)
   obtain ⟨F0, l0, F2, l2, F3, l3, F4, l4, rfl, rfl, rfl, rfl⟩ := hr5.slices
   have HR5 := Aside0.mk hr5
   clear hb5 hr5 g0 g1 g2 g3 g4 g5 g6
   obtain ⟨z0, z1, z2, z3, z4, z5, z6⟩ := cells7_ HZ5.out
   have e0 := blk_frozen HZ5.out 0
   have e1 := blk_frozen HZ5.out 1
   have e2 := blk_frozen HZ5.out 2
   have e3 := blk_frozen HZ5.out 3
   have e4 := blk_frozen HZ5.out 4
   have e5 := blk_frozen HZ5.out 5
   have e6 := blk_frozen HZ5.out 6
   go_wp2
   clear z0 z1 z2 z3 z4 z5 z6 e0 e1 e2 e3 e4 e5 e6
   have hw := HGW.out
   subst hw
   obtain ⟨q1, q2, q3, -⟩ := fill7 HZ5.out HB5.out (Nat.le_succ _) (.slice F0 s'.src.length l0) (.int .i64 s'.at_) (.slice F2 s'.pend.length l2) (.slice F3 s'.stored.length l3) (.slice F4 s'.out.length l4) (.int .i64 s'.last) (.int .i64 s'.upto)
   refine bodyPost_ret (results_ct rfl _ _ (w.heap.size + 1) 28 _ (0, 0) _ rfl q1 Try.underlying28 rfl (by kernel_rfl)) rfl ?_
   exact ⟨_, _, _, _, rfl, (HR5.out.step HZ5.out q3).lower HGG.out, q2⟩
end Go.Proofs.Ytjndadjhhknggaa.Q
end
section
/- Values of one's own that are written in place: each row's block is its own, a row without elements has none. -/
namespace Go.Proofs.Ytjndadjhhknggaa.Q
open Go.RowKit Go.Proofs.YtjndadjhhknggaaW.PrintWords Go.Proofs.YtjndadjhhknggaaW.PrintLast
set_option linter.unusedVariables false
set_option linter.unusedSimpArgs false

/-- A kind with what is owned: X w B x cs: the cells cs are x; what they lead to lies in blocks of B, each led to once. -/
structure KX (α : Type) extends Kd α where
 X : World → (Nat → Prop) → α → List Value → Prop
 X_K : ∀ {w B x cs}, X w B x cs → K w x cs
 X_mono : ∀ {w : World} {B B' : Nat → Prop} {x cs}, (∀ k, B k → B' k) → X w B x cs → X w B' x cs
 X_move : ∀ {w w1 : World} {B x cs}, (∀ k, B k → k < w.heap.size → w1.heap[k]? = w.heap[k]?) → X w B x cs → X w1 B x cs
 X_bound : ∀ {w : World} {B x cs}, X w B x cs → X w (fun k => B k ∧ k < w.heap.size) x cs

namespace KX
variable {α β : Type}
def scalar (enc : α → Value) (h1 : ∀ x, (enc x).oneCell' = true) : KX α where
 toKd := Kd.scalar enc h1
 X := fun _ _ x cs => cs = [enc x]
 X_K := fun h => h
 X_mono := fun _ h => h
 X_move := fun _ h => h
 X_bound := fun h => h
def int : KX Int := scalar (Value.int .i64) (fun _ => rfl)
def pair (a : KX α) (b : KX β) : KX (α × β) where
 toKd := Kd.pair a.toKd b.toKd
 X := fun w B x cs => ∃ c0 c1, cs = c0 ++ c1 ∧ ∃ f : Nat → Bool, a.X w (fun k => B k ∧ f k = true) x.1 c0 ∧ b.X w (fun k => B k ∧ f k = false) x.2 c1
 X_K := by
  rintro w B x cs ⟨c0, c1, rfl, f, h0, h1⟩
  exact ⟨c0, c1, rfl, a.X_K h0, b.X_K h1⟩
 X_mono := by
  rintro w B B' x cs hB ⟨c0, c1, rfl, f, h0, h1⟩
  exact ⟨c0, c1, rfl, f, a.X_mono (fun k hk => ⟨hB k hk.1, hk.2⟩) h0, b.X_mono (fun k hk => ⟨hB k hk.1, hk.2⟩) h1⟩
 X_move := by
  rintro w w1 B x cs hm ⟨c0, c1, rfl, f, h0, h1⟩
  exact ⟨c0, c1, rfl, f, a.X_move (fun k hk hl => hm k hk.1 hl) h0, b.X_move (fun k hk hl => hm k hk.1 hl) h1⟩
 X_bound := by
  rintro w B x cs ⟨c0, c1, rfl, f, h0, h1⟩
  exact ⟨c0, c1, rfl, f, a.X_mono (fun k hk => ⟨⟨hk.1.1, hk.2⟩, hk.1.2⟩) (a.X_bound h0), b.X_mono (fun k hk => ⟨⟨hk.1.1, hk.2⟩, hk.1.2⟩) (b.X_bound h1)⟩
def iso (d : KX α) (f : β → α) : KX β where
 toKd := Kd.iso d.toKd f
 X := fun w B x cs => d.X w B (f x) cs
 X_K := fun h => d.X_K h
 X_mono := fun hB h => d.X_mono hB h
 X_move := fun hm h => d.X_move hm h
 X_bound := fun h => d.X_bound h
/-- A row: v's cells. -/
def Row (d : KX α) (e : Nat) (w : World) (B : Nat → Prop) (v : Value) (xs : List α) : Prop :=
 ∃ A c, v = .slice A xs.length c ∧ xs.length ≤ c ∧ c ≤ maxLen ∧ (0 < xs.length → ∃ (g : Nat) (cur : Array Value) (f : Nat → Nat), A = some ⟨g, 0, none⟩ ∧ B g ∧ w.heap[g]? = some (.cells cur e (0, 0)) ∧
  ∀ j p, xs[j]? = some p → ∃ cc, cc.length = d.sz ∧ (∀ i u, cc[i]? = some u → cur[j * d.sz + i]? = some u) ∧ d.X w (fun k => B k ∧ k ≠ g ∧ f k = j) p cc)
section
variable {d : KX α} {e : Nat} {w w1 : World} {B B' : Nat → Prop} {v : Value} {xs : List α}
theorem Row_reads (h : Row d e w B v xs) : ∃ A c, v = .slice A xs.length c ∧ xs.length ≤ c ∧ d.C w A xs.length xs := by
 obtain ⟨A, c, hv, hc, hm, hr⟩ := h
 refine ⟨A, c, hv, hc, rfl, by simp only [maxLen] at hm; omega, fun hp => ?_⟩
 obtain ⟨g, cur, f, rfl, hg, hh, hel⟩ := hr hp
 refine ⟨_, rfl, fun j p hj => ?_⟩
 obtain ⟨cc, hl, hcc, hx⟩ := hel j p hj
 refine ⟨cc, hl, d.X_K hx, fun i u hu => ?_⟩
 rw [add_plain]
 exact (blk_cell hh _).trans (hcc i u hu)
theorem Row_mono (hB : ∀ k, B k → B' k) (h : Row d e w B v xs) : Row d e w B' v xs := by
 obtain ⟨A, c, hv, hc, hm, hr⟩ := h
 refine ⟨A, c, hv, hc, hm, fun hp => ?_⟩
 obtain ⟨g, cur, f, hA, hg, hh, hel⟩ := hr hp
 refine ⟨g, cur, f, hA, hB g hg, hh, fun j p hj => ?_⟩
 obtain ⟨cc, hl, hcc, hx⟩ := hel j p hj
 exact ⟨cc, hl, hcc, d.X_mono (fun k hk => ⟨hB k hk.1, hk.2⟩) hx⟩
theorem Row_move (hm : ∀ k, B k → k < w.heap.size → w1.heap[k]? = w.heap[k]?) (h : Row d e w B v xs) : Row d e w1 B v xs := by
 obtain ⟨A, c, hv, hc, hmx, hr⟩ := h
 refine ⟨A, c, hv, hc, hmx, fun hp => ?_⟩
 obtain ⟨g, cur, f, hA, hg, hh, hel⟩ := hr hp
 refine ⟨g, cur, f, hA, hg, (hm g hg (blk_lt hh)).trans hh, fun j p hj => ?_⟩
 obtain ⟨cc, hl, hcc, hx⟩ := hel j p hj
 exact ⟨cc, hl, hcc, d.X_move (fun k hk hl => hm k hk.1 hl) hx⟩
theorem Row_bound (h : Row d e w B v xs) : Row d e w (fun k => B k ∧ k < w.heap.size) v xs := by
 obtain ⟨A, c, hv, hc, hmx, hr⟩ := h
 refine ⟨A, c, hv, hc, hmx, fun hp => ?_⟩
 obtain ⟨g, cur, f, hA, hg, hh, hel⟩ := hr hp
 refine ⟨g, cur, f, hA, ⟨hg, blk_lt hh⟩, hh, fun j p hj => ?_⟩
 obtain ⟨cc, hl, hcc, hx⟩ := hel j p hj
 exact ⟨cc, hl, hcc, d.X_mono (fun k hk => ⟨⟨hk.1.1, hk.2⟩, hk.1.2⟩) (d.X_bound hx)⟩
theorem Row_below (h : Row d e w B v xs) (hb : Below w.heap.size w w1) : Row d e w1 B v xs := Row_move (fun k _ hl => hb.block k hl) h
/-- A row without elements, wherever it lies. -/
theorem Row_none (A : Option Addr) (c : Nat) (hc : c ≤ maxLen) : Row d e w B (.slice A 0 c) ([] : List α) := ⟨A, c, rfl, Nat.zero_le _, hc, fun h => absurd h (Nat.lt_irrefl _)⟩
theorem Row_nil : Row d e w B (.slice none 0 0) ([] : List α) := Row_none none 0 (Nat.zero_le _)
end
def slice (e : Nat) (d : KX α) : KX (List α) where
 toKd := Kd.slice e d.toKd
 X := fun w B xs cs => ∃ v, cs = [v] ∧ Row d e w B v xs
 X_K := by
  rintro w B x cs ⟨v, rfl, h⟩
  obtain ⟨A, c, rfl, hc, hr⟩ := Row_reads h
  exact ⟨A, c, rfl, hc, hr⟩
 X_mono := by
  rintro w B B' x cs hB ⟨v, rfl, h⟩
  exact ⟨v, rfl, Row_mono hB h⟩
 X_move := by
  rintro w w1 B x cs hm ⟨v, rfl, h⟩
  exact ⟨v, rfl, Row_move hm h⟩
 X_bound := by
  rintro w B x cs ⟨v, rfl, h⟩
  exact ⟨v, rfl, Row_bound h⟩

/-! ### an element taken and given back -/
section
variable {d : KX α} {e : Nat} {w w1 : World} {B B' : Nat → Prop} {v : Value} {xs : List α}
/-- Element i of a row: its block and cells; what it leads to lies in blocks of its own; and how it is given back. -/
theorem Row_elem (h : Row d e w B v xs) (z : α) (i : Nat) (hi : i < xs.length) :
  ∃ (g c : Nat) (cur : Array Value) (f : Nat → Nat) (cc : List Value), v = .slice (some ⟨g, 0, none⟩) xs.length c ∧ xs.length ≤ c ∧ B g ∧ w.heap[g]? = some (.cells cur e (0, 0)) ∧ cc.length = d.sz ∧ (∀ j u, cc[j]? = some u → cur[i * d.sz + j]? = some u) ∧ d.X w (fun k => B k ∧ k ≠ g ∧ f k = i) (xs.getD i z) cc ∧
   ∀ (w1 : World) (cur1 : Array Value) (cc1 : List Value) (y : α), w1.heap[g]? = some (.cells cur1 e (0, 0)) → cc1.length = d.sz → (∀ j u, cc1[j]? = some u → cur1[i * d.sz + j]? = some u) →
    (∀ q, (q < i * d.sz ∨ i * d.sz + d.sz ≤ q) → cur1[q]? = cur[q]?) → d.X w1 (fun k => B k ∧ k ≠ g ∧ f k = i) y cc1 → (∀ k, B k → k ≠ g → f k ≠ i → k < w.heap.size → w1.heap[k]? = w.heap[k]?) → Row d e w1 B v (xs.set i y) := by
 obtain ⟨A, c, rfl, hc, hmx, hr⟩ := h
 obtain ⟨g, cur, f, rfl, hg, hh, hel⟩ := hr (by omega)
 obtain ⟨cc, hl, hcc, hx⟩ := hel i _ (List.getElem?_eq_getElem hi)
 refine ⟨g, c, cur, f, cc, rfl, hc, hg, hh, hl, hcc, by rw [List.getD_eq_getElem?_getD, List.getElem?_eq_getElem hi]; exact hx, ?_⟩
 intro w1 cur1 cc1 y hh1 hl1 hcc1 hout hx1 hoth
 refine ⟨_, c, by rw [List.length_set], by rw [List.length_set]; exact hc, hmx, fun _ => ⟨g, cur1, f, rfl, hg, hh1, fun j p hj => ?_⟩⟩
 by_cases hji : j = i
 ·subst hji
  rw [List.getElem?_set_self hi] at hj
  injection hj with hj
  subst hj
  exact ⟨cc1, hl1, hcc1, hx1⟩
 ·rw [List.getElem?_set_ne (Ne.symm hji)] at hj
  obtain ⟨c2, hl2, hcc2, hx2⟩ := hel j p hj
  refine ⟨c2, hl2, fun q u hu => ?_, d.X_move (fun k hk hlt => hoth k hk.1 hk.2.1 (by rw [hk.2.2]; exact hji) hlt) hx2⟩
  rw [hout _ ?_]
  ·exact hcc2 q u hu
  ·have hq : q < d.sz := by
    have := (List.getElem?_eq_some_iff.1 hu).1
    omega
   rcases Nat.lt_or_gt_of_ne hji with hlt | hgt
   ·left
    have : (j + 1) * d.sz ≤ i * d.sz := Nat.mul_le_mul_right _ hlt
    rw [Nat.add_mul, Nat.one_mul] at this
    omega
   ·right
    have : (i + 1) * d.sz ≤ j * d.sz := Nat.mul_le_mul_right _ hgt
    rw [Nat.add_mul, Nat.one_mul] at this
    omega
end

/-! ### out of what the print tells -/
section
variable {d : KX α} {e base : Nat} {w : World} {ok : Nat → Prop} {v : Value} {xs : List α}
/-- A row of the call's own, of elements that lead nowhere. -/
theorem Row_of_R (hflat : ∀ (W : World) (b : Nat) (o B : Nat → Prop) (x : α) (cs : List Value), d.M W b o x cs → d.X W B x cs) (h : d.toKd.R e w base ok v xs) : Row d e w ok v xs := by
 obtain ⟨h0, inner, ho, hr⟩ := h
 obtain ⟨hl, ho⟩ := ho
 rcases ho with ⟨rfl, hn⟩ | ⟨g, cap, cur, rfl, hb, hh, hnc, hcm, hcs, ht⟩
 ·have : xs = [] := List.eq_nil_of_length_eq_zero hn
  subst this
  exact Row_nil
 ·refine ⟨_, cap, rfl, hnc, hcm, fun hp => ⟨g, cur, fun _ => 0, rfl, h0 g (by simp [Value.ownBlock]), hh, fun j p hj => ?_⟩⟩
  have hjl := (List.getElem?_eq_some_iff.1 hj).1
  have h1 : j * d.sz + d.sz ≤ inner.length := by rw [hr.1, ← Nat.succ_mul]; exact Nat.mul_le_mul_right _ hjl
  refine ⟨(inner.drop (j * d.sz)).take d.sz, by rw [List.length_take, List.length_drop]; omega, fun i u hu => ?_, hflat _ _ _ _ _ _ (hr.2 j p hj)⟩
  rw [List.getElem?_take] at hu
  split at hu
  ·rw [List.getElem?_drop, ← ht, List.getElem?_take] at hu
   split at hu
   ·simpa using hu
   ·cases hu
  ·cases hu
/-- A row of the call's own whose elements lie apart. -/
theorem Row_of_S (hin : ∀ (W : World) (b : Nat) (o : Nat → Prop) (x : α) (cs : List Value), d.M W b o x cs → d.X W o x cs) (h : Kd.S d.toKd e w base ok v xs) : Row d e w ok v xs := by
 obtain ⟨f, h0, inner, ho, hr⟩ := h
 rw [List.length_zipIdx] at ho
 obtain ⟨hl, ho⟩ := ho
 rcases ho with ⟨rfl, hn⟩ | ⟨g, cap, cur, rfl, hb, hh, hnc, hcm, hcs, ht⟩
 ·have : xs = [] := List.eq_nil_of_length_eq_zero hn
  subst this
  exact Row_nil
 ·refine ⟨_, cap, rfl, hnc, hcm, fun hp => ⟨g, cur, f, rfl, h0 g (by simp [Value.ownBlock]), hh, fun j p hj => ?_⟩⟩
  have hjl := (List.getElem?_eq_some_iff.1 hj).1
  have hr1 := hr.1
  rw [List.length_zipIdx] at hr1
  have h1 : j * d.sz + d.sz ≤ inner.length := by rw [hr1, ← Nat.succ_mul]; exact Nat.mul_le_mul_right _ hjl
  have h2 := hr.2 j (p, j) (Kd.zip_at hj)
  refine ⟨(inner.drop (j * d.sz)).take d.sz, by rw [List.length_take, List.length_drop]; omega, fun i u hu => ?_, d.X_mono (fun k hk => ⟨hk.1.1, fun e => hk.1.2 (by rw [e]; rfl), hk.2⟩) (hin _ _ _ _ _ h2)⟩
  rw [List.getElem?_take] at hu
  split at hu
  ·rw [List.getElem?_drop, ← ht, List.getElem?_take] at hu
   split at hu
   ·simpa using hu
   ·cases hu
  ·cases hu
end
end KX

/-! ### what a writing call leaves -/
/-- All but the blocks of B (and what is new) is as it was. -/
structure Wrote (B : Nat → Prop) (w w' : World) : Prop where
 os : w'.os = w.os
 tape : w'.tape = w.tape
 output : w'.output = w.output
 size : w.heap.size ≤ w'.heap.size
 block : ∀ i, i < w.heap.size → ¬ B i → w'.heap[i]? = w.heap[i]?
namespace Wrote
variable {B B' : Nat → Prop} {w w1 w2 : World}
theorem refl (B : Nat → Prop) (w : World) : Wrote B w w := ⟨rfl, rfl, rfl, Nat.le_refl _, fun _ _ _ => rfl⟩
theorem of_below (h : Below w.heap.size w w1) : Wrote B w w1 := ⟨h.os, h.tape, h.output, h.size, fun i hi _ => h.block i hi⟩
theorem trans (h : Wrote B w w1) (k : Wrote B w1 w2) : Wrote B w w2 := ⟨k.os.trans h.os, k.tape.trans h.tape, k.output.trans h.output, Nat.le_trans h.size k.size, fun i hi hn => (k.block i (Nat.lt_of_lt_of_le hi h.size) hn).trans (h.block i hi hn)⟩
theorem mono (h : Wrote B w w1) (hB : ∀ k, B k → k < w.heap.size → B' k) : Wrote B' w w1 := ⟨h.os, h.tape, h.output, h.size, fun i hi hn => h.block i hi (fun hb => hn (hB i hb hi))⟩
theorem below {base : Nat} {w0 : World} (h0 : Below base w0 w) (h : Wrote B w w1) (hB : ∀ k, B k → base ≤ k) (hb : base ≤ w.heap.size) : Below base w0 w1 :=
 ⟨h.os.trans h0.os, h.tape.trans h0.tape, h.output.trans h0.output, Nat.le_trans h0.size h.size, fun i hi => (h.block i (Nat.lt_of_lt_of_le hi hb) (fun hk => by have := hB i hk; omega)).trans (h0.block i hi)⟩
theorem setCell (g j : Nat) (u : Value) (hg : B g) : Wrote B w (w.setCell ⟨g, j, none⟩ u) := ⟨rfl, rfl, rfl, by simp, fun i hi hn => Below.heap_setCell w ⟨g, j, none⟩ u i (fun e => hn (by rw [e]; exact hg))⟩
end Wrote
end Go.Proofs.Ytjndadjhhknggaa.Q
end
section
/- Contracts of a function, printed for this claim by a program of ours over the kit's print. -/
namespace Go.Proofs.Ytjndadjhhknggaa.Q
open Go.RowKit Go.Proofs.YtjndadjhhknggaaW.PrintWords Go.Proofs.YtjndadjhhknggaaW.PrintLast Go.Proofs.YtjndadjhhknggaaW.PrintMore
attribute [local go_sem] max2_int min2_int max_two min_two max_three min_three max_four min_four   -- for this text's walks alone
set_option linter.unusedVariables false
set_option linter.unusedSimpArgs false

/-! ### laws_heldIntS: function 53 -/
def laws_heldIntS.l0 : Nat → List Int → Int → Int → Option (Int)
 | 0, _, _, _ => none
 | k + 1, x0, x1, x5 => if x5 < (x0.length : Int) then (if 0 ≤ x5 then (if (rd x0 x5) = x1 then (laws_heldIntS.l0 k x0 (wrap64 (x1 + 1)) (wrap64 (x5 + 1))) else (some (-1))) else (none)) else (some x1)
def laws_heldIntS.f (k : Nat) (l0 : List Int) (a1 : Int) : Option (Int) := laws_heldIntS.l0 k l0 a1 0
set_option maxHeartbeats 8000000 in
set_option maxRecDepth 100000 in
theorem laws_heldIntS.calls (k : Nat) (A0 : Option Addr) (c0 : Nat) (l0 : List Int) (a1 : Int) (r : Int) (w : World) (hr0 : Kd.C (Kd.int .i64) w A0 l0.length l0) (hc0 : l0.length ≤ c0) (h : laws_heldIntS.f k l0 a1 = some r) :
  Calls Try.prog 53 #[.slice A0 l0.length c0, .int .i64 a1] w fun e w' => e = .returned (.int .i64 r) ∧ Drawn0 w w' := by
 have HR0 := Aside0.mk hr0
 have HC0 := Aside0.mk hc0
 clear hr0 hc0
 have H : (laws_heldIntS.l0 k l0 a1 0) = some r := h
 clear h
 have H' := Aside0.mk H
 clear H
 go_enter Try.func53, Try.ntmps53
 go_wp2
 go_loopg [1, 5] k (fun kq v1 v5 w' => ∃ (x1_1 : Int) (x5_1 : Int), v1 = .int .i64 x1_1 ∧ v5 = .int .i64 x5_1 ∧ Aside0 (laws_heldIntS.l0 kq l0 x1_1 x5_1 = some r) ∧ Aside0 (kq ≤ k) ∧ Drawn0 w w')
 case atStart => exact ⟨(a1), (0), (by first | rfl | (simp; done) | (simp [*]; done)), (by first | rfl | (simp; done) | (simp [*]; done)), H', ⟨Nat.le_refl _⟩, by repeat (first | exact Drawn0.refl _ | apply Drawn0.step)⟩
 case round =>
  clear H'
  try clear p2
  obtain ⟨x1_1, x5_1, rfl, rfl, HA, HK1, ⟨m1, rfl⟩⟩ := hrel
  cases gk with
  | zero => exact absurd HA.out (by simp [laws_heldIntS.l0])
  | succ k1 =>
   have H := HA.out
   clear HA
   simp only [laws_heldIntS.l0] at H
   by_cases c3 : x5_1 < (l0.length : Int)
   ·rw [if_pos c3] at H
    have c3b0 : decide (x5_1 < (l0.length : Int)) = true := decide_eq_true c3
    clear c3
    by_cases c4 : 0 ≤ x5_1
    ·rw [if_pos c4] at H
     have c4b0 : decide (0 ≤ x5_1) = true := decide_eq_true c4
     clear c4
     by_cases c5 : (rd l0 x5_1) = x1_1
     ·rw [if_pos c5] at H
      have c5b0 : ((rd l0 x5_1) == x1_1) = true := beq_iff_eq.mpr c5
      have c5b1 : ((rd l0 x5_1) != x1_1) = false := bne_eq_false_iff_eq.mpr c5
      clear c5
      have H' := Aside0.mk H
      clear H
      have p101 : 0 ≤ (x5_1 : Int) := of_decide_eq_true (by first | (with_reducible assumption) | assumption)
      have q101 : x5_1 < (l0.length : Int) := of_decide_eq_true (by first | (with_reducible assumption) | assumption)
      obtain ⟨ad101, e101, hx101_0⟩ := Kd.at_int HR0.out x5_1 p101 q101
      cases e101
      replace p101 := eq_true p101
      replace q101 := eq_true q101
      go_wp2
      go_roundg k1
      case measure => have := HK1.out; omega
      case rel => exact ⟨(wrap64 (x1_1 + 1)), (wrap64 (x5_1 + 1)), (by first | rfl | (simp; done) | (simp [*]; done)), (by first | rfl | (simp; done) | (simp [*]; done)), H', ⟨by have := HK1.out; omega⟩, by repeat (first | exact Drawn0.refl _ | apply Drawn0.step)⟩
     ·rw [if_neg c5] at H
      have c5b0 : ((rd l0 x5_1) == x1_1) = false := beq_eq_false_iff_ne.mpr c5
      have c5b1 : ((rd l0 x5_1) != x1_1) = true := bne_iff_ne.mpr c5
      obtain rfl := Option.some.inj H
      have p101 : 0 ≤ (x5_1 : Int) := of_decide_eq_true (by first | (with_reducible assumption) | assumption)
      have q101 : x5_1 < (l0.length : Int) := of_decide_eq_true (by first | (with_reducible assumption) | assumption)
      obtain ⟨ad101, e101, hx101_0⟩ := Kd.at_int HR0.out x5_1 p101 q101
      cases e101
      replace p101 := eq_true p101
      replace q101 := eq_true q101
      go_wp2
      go_ret
      exact ⟨by first | rfl | (simp; done) | (simp [*]; done), by repeat (first | exact Drawn0.refl _ | apply Drawn0.step)⟩
    ·rw [if_neg c4] at H
     exact absurd H (by simp)
   ·rw [if_neg c3] at H
    have c3b0 : decide (x5_1 < (l0.length : Int)) = false := decide_eq_false c3
    clear c3
    obtain rfl := Option.some.inj H
    go_wp2
    go_ret
    exact ⟨by first | rfl | (simp; done) | (simp [*]; done), by repeat (first | exact Drawn0.refl _ | apply Drawn0.step)⟩

end Go.Proofs.Ytjndadjhhknggaa.Q
end
