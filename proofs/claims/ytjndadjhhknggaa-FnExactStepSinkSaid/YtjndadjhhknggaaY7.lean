/- Whatever the input, FnExactStepSink returns true, and its arguments read as they did. No condition. -/
import Derived.Deep.Slices
import Derived.ChangeArms
import Derived.OpenShut
import Derived.Test.YtjndadjhhknggaaRows
import Derived.WalkKit
import Derived.ProofKit
import Derived.ChangeOld
import Derived.Below
import Derived.SizedLaws
import Derived.Test.YtjndadjhhknggaaY1
import Derived.Test.YtjndadjhhknggaaY2
import Derived.Test.YtjndadjhhknggaaY3
import Derived.Test.YtjndadjhhknggaaY4
import Derived.Test.YtjndadjhhknggaaY5
import Derived.Test.YtjndadjhhknggaaY6
section
/- Contracts of a function, printed for this claim by a program of ours over the kit's print. -/
namespace Go.Proofs.Ytjndadjhhknggaa.Q
open Go.RowKit Go.Proofs.YtjndadjhhknggaaW.PrintWords Go.Proofs.YtjndadjhhknggaaW.PrintLast Go.Proofs.YtjndadjhhknggaaW.PrintMore
attribute [local go_sem] max2_int min2_int max_two min_two max_three min_three max_four min_four   -- for this text's walks alone
set_option linter.unusedVariables false
set_option linter.unusedSimpArgs false

/-! ### laws_eqSink: function 20 -/
def laws_eqSink.f (k : Nat) (l0_0 : List Int) (a0_1 : Int) (l0_2 : List Int) (l0_3 : List (S68)) (l0_4 : List Int) (a0_5 : Int) (a0_6 : Int) (l1_0 : List Int) (a1_1 : Int) (l1_2 : List Int) (l1_3 : List (S68)) (l1_4 : List Int) (a1_5 : Int) (a1_6 : Int) : Option (Bool) := (laws_eqIntS.f k l0_0 l1_0).bind fun t103 => (if t103 = true then (if a0_1 = a1_1 then ((laws_eqIntS.f k l0_2 l1_2).bind fun t104 => (if t104 = true then ((laws_eqPreparedS.f k l0_3 l1_3).bind fun t105 => (if t105 = true then ((laws_eqIntS.f k l0_4 l1_4).bind fun t106 => (if t106 = true then (if a0_5 = a1_5 then (if a0_6 = a1_6 then (some true) else (some false)) else (some false)) else (some false))) else (some false))) else (some false))) else (some false)) else (some false))
set_option maxHeartbeats 8000000 in
set_option maxRecDepth 100000 in
theorem laws_eqSink.calls (k : Nat) (A0_0 : Option Addr) (c0_0 : Nat) (l0_0 : List Int) (a0_1 : Int) (A0_2 : Option Addr) (c0_2 : Nat) (l0_2 : List Int) (A0_3 : Option Addr) (c0_3 : Nat) (l0_3 : List (S68)) (A0_4 : Option Addr) (c0_4 : Nat) (l0_4 : List Int) (a0_5 : Int) (a0_6 : Int) (A1_0 : Option Addr) (c1_0 : Nat) (l1_0 : List Int) (a1_1 : Int) (A1_2 : Option Addr) (c1_2 : Nat) (l1_2 : List Int) (A1_3 : Option Addr) (c1_3 : Nat) (l1_3 : List (S68)) (A1_4 : Option Addr) (c1_4 : Nat) (l1_4 : List Int) (a1_5 : Int) (a1_6 : Int) (r : Bool) (w : World) (hr0_0 : Kd.C (Kd.int .i64) w A0_0 l0_0.length l0_0) (hc0_0 : l0_0.length ≤ c0_0) (hr0_2 : Kd.C (Kd.int .i64) w A0_2 l0_2.length l0_2) (hc0_2 : l0_2.length ≤ c0_2) (hr0_3 : Kd.C k68 w A0_3 l0_3.length l0_3) (hc0_3 : l0_3.length ≤ c0_3) (hr0_4 : Kd.C (Kd.int .i64) w A0_4 l0_4.length l0_4) (hc0_4 : l0_4.length ≤ c0_4) (hr1_0 : Kd.C (Kd.int .i64) w A1_0 l1_0.length l1_0) (hc1_0 : l1_0.length ≤ c1_0) (hr1_2 : Kd.C (Kd.int .i64) w A1_2 l1_2.length l1_2) (hc1_2 : l1_2.length ≤ c1_2) (hr1_3 : Kd.C k68 w A1_3 l1_3.length l1_3) (hc1_3 : l1_3.length ≤ c1_3) (hr1_4 : Kd.C (Kd.int .i64) w A1_4 l1_4.length l1_4) (hc1_4 : l1_4.length ≤ c1_4) (h : laws_eqSink.f k l0_0 a0_1 l0_2 l0_3 l0_4 a0_5 a0_6 l1_0 a1_1 l1_2 l1_3 l1_4 a1_5 a1_6 = some r) :
  Calls Try.prog 20 #[.agg #[.slice A0_0 l0_0.length c0_0, .int .i64 a0_1, .slice A0_2 l0_2.length c0_2, .slice A0_3 l0_3.length c0_3, .slice A0_4 l0_4.length c0_4, .int .i64 a0_5, .int .i64 a0_6], .agg #[.slice A1_0 l1_0.length c1_0, .int .i64 a1_1, .slice A1_2 l1_2.length c1_2, .slice A1_3 l1_3.length c1_3, .slice A1_4 l1_4.length c1_4, .int .i64 a1_5, .int .i64 a1_6]] w fun e w' => e = .returned (.bool r) ∧ Below w.heap.size w w' := by
 have hu28 := Try.underlying28
 have HR0_0 := Aside0.mk hr0_0
 have HC0_0 := Aside0.mk hc0_0
 clear hr0_0 hc0_0
 have HR0_2 := Aside0.mk hr0_2
 have HC0_2 := Aside0.mk hc0_2
 clear hr0_2 hc0_2
 have HR0_3 := Aside0.mk hr0_3
 have HC0_3 := Aside0.mk hc0_3
 clear hr0_3 hc0_3
 have HR0_4 := Aside0.mk hr0_4
 have HC0_4 := Aside0.mk hc0_4
 clear hr0_4 hc0_4
 have HR1_0 := Aside0.mk hr1_0
 have HC1_0 := Aside0.mk hc1_0
 clear hr1_0 hc1_0
 have HR1_2 := Aside0.mk hr1_2
 have HC1_2 := Aside0.mk hc1_2
 clear hr1_2 hc1_2
 have HR1_3 := Aside0.mk hr1_3
 have HC1_3 := Aside0.mk hc1_3
 clear hr1_3 hc1_3
 have HR1_4 := Aside0.mk hr1_4
 have HC1_4 := Aside0.mk hc1_4
 clear hr1_4 hc1_4
 have HB := Aside0.mk (Below.refl w.heap.size w)
 have H : ((laws_eqIntS.f k l0_0 l1_0).bind fun t103 => (if t103 = true then (if a0_1 = a1_1 then ((laws_eqIntS.f k l0_2 l1_2).bind fun t104 => (if t104 = true then ((laws_eqPreparedS.f k l0_3 l1_3).bind fun t105 => (if t105 = true then ((laws_eqIntS.f k l0_4 l1_4).bind fun t106 => (if t106 = true then (if a0_5 = a1_5 then (if a0_6 = a1_6 then (some true) else (some false)) else (some false)) else (some false))) else (some false))) else (some false))) else (some false)) else (some false))) = some r := h
 clear h
 replace H := Option.bind_eq_some_iff.mp H
 obtain ⟨t103, A30, H⟩ := H
 replace H : (if t103 = true then (if a0_1 = a1_1 then ((laws_eqIntS.f k l0_2 l1_2).bind fun t104 => (if t104 = true then ((laws_eqPreparedS.f k l0_3 l1_3).bind fun t105 => (if t105 = true then ((laws_eqIntS.f k l0_4 l1_4).bind fun t106 => (if t106 = true then (if a0_5 = a1_5 then (if a0_6 = a1_6 then (some true) else (some false)) else (some false)) else (some false))) else (some false))) else (some false))) else (some false)) else (some false)) = some r := H
 have A3 := Aside0.mk A30
 clear A30
 by_cases c4 : t103 = true
 ·subst c4
  have H1 : (if a0_1 = a1_1 then ((laws_eqIntS.f k l0_2 l1_2).bind fun t104 => (if t104 = true then ((laws_eqPreparedS.f k l0_3 l1_3).bind fun t105 => (if t105 = true then ((laws_eqIntS.f k l0_4 l1_4).bind fun t106 => (if t106 = true then (if a0_5 = a1_5 then (if a0_6 = a1_6 then (some true) else (some false)) else (some false)) else (some false))) else (some false))) else (some false))) else (some false)) = some r := by rw [if_pos rfl] at H; exact H
  clear H
  have H := H1
  clear H1
  by_cases c5 : a0_1 = a1_1
  ·rw [if_pos c5] at H
   have c5b0 : (a0_1 == a1_1) = true := beq_iff_eq.mpr c5
   have c5b1 : (a0_1 != a1_1) = false := bne_eq_false_iff_eq.mpr c5
   clear c5
   replace H := Option.bind_eq_some_iff.mp H
   obtain ⟨t104, A60, H⟩ := H
   replace H : (if t104 = true then ((laws_eqPreparedS.f k l0_3 l1_3).bind fun t105 => (if t105 = true then ((laws_eqIntS.f k l0_4 l1_4).bind fun t106 => (if t106 = true then (if a0_5 = a1_5 then (if a0_6 = a1_6 then (some true) else (some false)) else (some false)) else (some false))) else (some false))) else (some false)) = some r := H
   have A6 := Aside0.mk A60
   clear A60
   by_cases c7 : t104 = true
   ·subst c7
    have H1 : ((laws_eqPreparedS.f k l0_3 l1_3).bind fun t105 => (if t105 = true then ((laws_eqIntS.f k l0_4 l1_4).bind fun t106 => (if t106 = true then (if a0_5 = a1_5 then (if a0_6 = a1_6 then (some true) else (some false)) else (some false)) else (some false))) else (some false))) = some r := by rw [if_pos rfl] at H; exact H
    clear H
    have H := H1
    clear H1
    replace H := Option.bind_eq_some_iff.mp H
    obtain ⟨t105, A80, H⟩ := H
    replace H : (if t105 = true then ((laws_eqIntS.f k l0_4 l1_4).bind fun t106 => (if t106 = true then (if a0_5 = a1_5 then (if a0_6 = a1_6 then (some true) else (some false)) else (some false)) else (some false))) else (some false)) = some r := H
    have A8 := Aside0.mk A80
    clear A80
    by_cases c9 : t105 = true
    ·subst c9
     have H1 : ((laws_eqIntS.f k l0_4 l1_4).bind fun t106 => (if t106 = true then (if a0_5 = a1_5 then (if a0_6 = a1_6 then (some true) else (some false)) else (some false)) else (some false))) = some r := by rw [if_pos rfl] at H; exact H
     clear H
     have H := H1
     clear H1
     replace H := Option.bind_eq_some_iff.mp H
     obtain ⟨t106, A100, H⟩ := H
     replace H : (if t106 = true then (if a0_5 = a1_5 then (if a0_6 = a1_6 then (some true) else (some false)) else (some false)) else (some false)) = some r := H
     have A10 := Aside0.mk A100
     clear A100
     by_cases c11 : t106 = true
     ·subst c11
      have H1 : (if a0_5 = a1_5 then (if a0_6 = a1_6 then (some true) else (some false)) else (some false)) = some r := by rw [if_pos rfl] at H; exact H
      clear H
      have H := H1
      clear H1
      by_cases c12 : a0_5 = a1_5
      ·rw [if_pos c12] at H
       have c12b0 : (a0_5 == a1_5) = true := beq_iff_eq.mpr c12
       have c12b1 : (a0_5 != a1_5) = false := bne_eq_false_iff_eq.mpr c12
       clear c12
       by_cases c13 : a0_6 = a1_6
       ·rw [if_pos c13] at H
        have c13b0 : (a0_6 == a1_6) = true := beq_iff_eq.mpr c13
        have c13b1 : (a0_6 != a1_6) = false := bne_eq_false_iff_eq.mpr c13
        clear c13
        obtain rfl := Option.some.inj H
        go_enter Try.func20, Try.ntmps20
        go_wp2_with (first | ((with_reducible refine gate_dst (N := 2) rfl ?_); refine box_event ?hg (N := 2) ?hd (cs := #[.slice A0_0 l0_0.length c0_0, .int .i64 a0_1, .slice A0_2 l0_2.length c0_2, .slice A0_3 l0_3.length c0_3, .slice A0_4 l0_4.length c0_4, .int .i64 a0_5, .int .i64 a0_6]) (t := 28) ?hr ?_; (case hd => rfl); (case hg => rfl); (case hr => first | (go_simp; done) | (go_simp; rfl)); intro gb101 hg w14 hbox hb; have n0_ := Aside0.mk (below_step (by repeat (first | (with_reducible first | exact HB.out | apply below_alloc | apply pw_below_drewN | apply below_drew1) | exact HB.out)) hb); have n1_ := Aside0.mk (hbox); have n2_ := Aside0.mk ((by rw [hg]; exact (below_size (by repeat (first | (with_reducible first | exact HB.out | apply below_alloc | apply pw_below_drewN | apply below_drew1) | exact HB.out))) : w.heap.size ≤ gb101)); have n3_ := Aside0.mk ((by rw [hg]; exact (below_size (by repeat (first | (with_reducible first | exact HB.out | apply below_alloc | apply pw_below_drewN | apply below_drew1) | exact HB.out))) : w.heap.size ≤ gb101)); clear HB; have HB := n0_; have BK101 := n1_; have GW101 := n2_; have GE101 := n3_; clear n0_ n1_ n2_ n3_; clear hb hbox hg) | ((with_reducible refine gate_dst (N := 3) rfl ?_); refine box_event ?hg (N := 3) ?hd (cs := #[.slice A1_0 l1_0.length c1_0, .int .i64 a1_1, .slice A1_2 l1_2.length c1_2, .slice A1_3 l1_3.length c1_3, .slice A1_4 l1_4.length c1_4, .int .i64 a1_5, .int .i64 a1_6]) (t := 28) ?hr ?_; (case hd => rfl); (case hg => rfl); (case hr => first | (go_simp; done) | (go_simp; rfl)); intro gb102 hg w15 hbox hb; have n0_ := Aside0.mk (blk_below (g := gb101) (o := .cells #[.slice A0_0 l0_0.length c0_0, .int .i64 a0_1, .slice A0_2 l0_2.length c0_2, .slice A0_3 l0_3.length c0_3, .slice A0_4 l0_4.length c0_4, .int .i64 a0_5, .int .i64 a0_6] 28 (0, 0)) (by (with_reducible repeat (first | refine blk_drewN ?_ _ | refine blk_drew ?_ | refine blk_alloc ?_ _)); exact BK101.out) hb); have n1_ := Aside0.mk (below_step (by repeat (first | (with_reducible first | exact HB.out | apply below_alloc | apply pw_below_drewN | apply below_drew1 | refine below_set ?_ GE101.out) | exact HB.out)) hb); have n2_ := Aside0.mk (hbox); have n3_ := Aside0.mk ((by rw [hg]; exact (below_size (by repeat (first | (with_reducible first | exact HB.out | apply below_alloc | apply pw_below_drewN | apply below_drew1 | refine below_set ?_ GE101.out) | exact HB.out))) : w.heap.size ≤ gb102)); have n4_ := Aside0.mk ((by rw [hg]; exact (below_size (by repeat (first | (with_reducible first | exact HB.out | apply below_alloc | apply pw_below_drewN | apply below_drew1 | refine below_set ?_ GE101.out) | exact HB.out))) : w.heap.size ≤ gb102)); have n5_ := Aside0.mk ((by rw [hg]; exact Nat.ne_of_lt (blk_lt (g := gb101) (o := .cells #[.slice A0_0 l0_0.length c0_0, .int .i64 a0_1, .slice A0_2 l0_2.length c0_2, .slice A0_3 l0_3.length c0_3, .slice A0_4 l0_4.length c0_4, .int .i64 a0_5, .int .i64 a0_6] 28 (0, 0)) (by (with_reducible repeat (first | refine blk_drewN ?_ _ | refine blk_drew ?_ | refine blk_alloc ?_ _)); exact BK101.out)) : gb101 ≠ gb102)); have n6_ := Aside0.mk ((by rw [hg]; exact Nat.ne_of_gt (blk_lt (g := gb101) (o := .cells #[.slice A0_0 l0_0.length c0_0, .int .i64 a0_1, .slice A0_2 l0_2.length c0_2, .slice A0_3 l0_3.length c0_3, .slice A0_4 l0_4.length c0_4, .int .i64 a0_5, .int .i64 a0_6] 28 (0, 0)) (by (with_reducible repeat (first | refine blk_drewN ?_ _ | refine blk_drew ?_ | refine blk_alloc ?_ _)); exact BK101.out)) : gb102 ≠ gb101)); clear BK101; clear HB; have BK101 := n0_; have HB := n1_; have BK102 := n2_; have GW102 := n3_; have GE102 := n4_; have NB101_102 := n5_; have NB102_101 := n6_; clear n0_ n1_ n2_ n3_ n4_ n5_ n6_; clear hb hbox hg; have hnb16 := NB101_102.out; have hnc16 := NB102_101.out; have hcz17_0 : w15.cell? ⟨gb101, 0, none⟩ = some (.slice A0_0 l0_0.length c0_0) := (blk_cell BK101.out 0).trans rfl; have hcz17_1 : w15.cell? ⟨gb101, 1, none⟩ = some (.int .i64 a0_1) := (blk_cell BK101.out 1).trans rfl; have hcz17_2 : w15.cell? ⟨gb101, 2, none⟩ = some (.slice A0_2 l0_2.length c0_2) := (blk_cell BK101.out 2).trans rfl; have hcz17_3 : w15.cell? ⟨gb101, 3, none⟩ = some (.slice A0_3 l0_3.length c0_3) := (blk_cell BK101.out 3).trans rfl; have hcz17_4 : w15.cell? ⟨gb101, 4, none⟩ = some (.slice A0_4 l0_4.length c0_4) := (blk_cell BK101.out 4).trans rfl; have hcz17_5 : w15.cell? ⟨gb101, 5, none⟩ = some (.int .i64 a0_5) := (blk_cell BK101.out 5).trans rfl; have hcz17_6 : w15.cell? ⟨gb101, 6, none⟩ = some (.int .i64 a0_6) := (blk_cell BK101.out 6).trans rfl; have hfz17_0 := blk_frozen BK101.out 0; have hfz17_1 := blk_frozen BK101.out 1; have hfz17_2 := blk_frozen BK101.out 2; have hfz17_3 := blk_frozen BK101.out 3; have hfz17_4 := blk_frozen BK101.out 4; have hfz17_5 := blk_frozen BK101.out 5; have hfz17_6 := blk_frozen BK101.out 6; have hcz18_0 : w15.cell? ⟨gb102, 0, none⟩ = some (.slice A1_0 l1_0.length c1_0) := (blk_cell BK102.out 0).trans rfl; have hcz18_1 : w15.cell? ⟨gb102, 1, none⟩ = some (.int .i64 a1_1) := (blk_cell BK102.out 1).trans rfl; have hcz18_2 : w15.cell? ⟨gb102, 2, none⟩ = some (.slice A1_2 l1_2.length c1_2) := (blk_cell BK102.out 2).trans rfl; have hcz18_3 : w15.cell? ⟨gb102, 3, none⟩ = some (.slice A1_3 l1_3.length c1_3) := (blk_cell BK102.out 3).trans rfl; have hcz18_4 : w15.cell? ⟨gb102, 4, none⟩ = some (.slice A1_4 l1_4.length c1_4) := (blk_cell BK102.out 4).trans rfl; have hcz18_5 : w15.cell? ⟨gb102, 5, none⟩ = some (.int .i64 a1_5) := (blk_cell BK102.out 5).trans rfl; have hcz18_6 : w15.cell? ⟨gb102, 6, none⟩ = some (.int .i64 a1_6) := (blk_cell BK102.out 6).trans rfl; have hfz18_0 := blk_frozen BK102.out 0; have hfz18_1 := blk_frozen BK102.out 1; have hfz18_2 := blk_frozen BK102.out 2; have hfz18_3 := blk_frozen BK102.out 3; have hfz18_4 := blk_frozen BK102.out 4; have hfz18_5 := blk_frozen BK102.out 5; have hfz18_6 := blk_frozen BK102.out 6) | ((with_reducible refine gate_callee (f := 22) rfl ?_); refine goesL_ (some 9) rfl rfl Try.func22 (by kernel_rfl) rfl #[.slice A0_0 l0_0.length c0_0, .slice A1_0 l1_0.length c1_0] rfl (by (try simp only [List.map_toArray, List.map_cons, List.map_nil]); first | done | rfl | (simp only [List.length_drop, List.length_take]; rfl)) ?_; (with_reducible refine (laws_eqIntS.calls k _ _ l0_0 _ _ l1_0 true _ ?side1 ?side2 ?side3 ?side4 A3.out).mono ?_); (case side1 => repeat (first | exact (Kd.C_below HR0_0.out HB.out) | (with_reducible refine Kd.C_alloc ?_ _) | (with_reducible refine Kd.C_drewN ?_ _) | (with_reducible refine Kd.C_drew ?_))); (case side2 => exact HC0_0.out); (case side3 => repeat (first | exact (Kd.C_below HR1_0.out HB.out) | (with_reducible refine Kd.C_alloc ?_ _) | (with_reducible refine Kd.C_drewN ?_ _) | (with_reducible refine Kd.C_drew ?_))); (case side4 => exact HC1_0.out); rintro e w' ⟨rfl, ⟨nd, rfl⟩⟩; refine ⟨_, rfl, ?_⟩) | ((with_reducible refine gate_callee (f := 22) rfl ?_); refine goesL_ (some 20) rfl rfl Try.func22 (by kernel_rfl) rfl #[.slice A0_2 l0_2.length c0_2, .slice A1_2 l1_2.length c1_2] rfl (by (try simp only [List.map_toArray, List.map_cons, List.map_nil]); first | done | rfl | (simp only [List.length_drop, List.length_take]; rfl)) ?_; (with_reducible refine (laws_eqIntS.calls k _ _ l0_2 _ _ l1_2 true _ ?side1 ?side2 ?side3 ?side4 A6.out).mono ?_); (case side1 => repeat (first | exact (Kd.C_below HR0_2.out (by repeat (first | (with_reducible first | exact HB.out | apply below_alloc | apply pw_below_drewN | apply below_drew1 | refine below_set ?_ GE101.out | refine below_set ?_ GE102.out) | exact HB.out))) | (with_reducible refine Kd.C_alloc ?_ _) | (with_reducible refine Kd.C_drewN ?_ _) | (with_reducible refine Kd.C_drew ?_))); (case side2 => exact HC0_2.out); (case side3 => repeat (first | exact (Kd.C_below HR1_2.out (by repeat (first | (with_reducible first | exact HB.out | apply below_alloc | apply pw_below_drewN | apply below_drew1 | refine below_set ?_ GE101.out | refine below_set ?_ GE102.out) | exact HB.out))) | (with_reducible refine Kd.C_alloc ?_ _) | (with_reducible refine Kd.C_drewN ?_ _) | (with_reducible refine Kd.C_drew ?_))); (case side4 => exact HC1_2.out); rintro e w' ⟨rfl, ⟨nd, rfl⟩⟩; refine ⟨_, rfl, ?_⟩) | ((with_reducible refine gate_callee (f := 51) rfl ?_); refine goesL_ (some 26) rfl rfl Try.func51 (by kernel_rfl) rfl #[.slice A0_3 l0_3.length c0_3, .slice A1_3 l1_3.length c1_3] rfl (by (try simp only [List.map_toArray, List.map_cons, List.map_nil]); first | done | rfl | (simp only [List.length_drop, List.length_take]; rfl)) ?_; (with_reducible refine (laws_eqPreparedS.calls k _ _ l0_3 _ _ l1_3 true _ ?side1 ?side2 ?side3 ?side4 A8.out).mono ?_); (case side1 => repeat (first | exact (Kd.C_below HR0_3.out (by repeat (first | (with_reducible first | exact HB.out | apply below_alloc | apply pw_below_drewN | apply below_drew1 | refine below_set ?_ GE101.out | refine below_set ?_ GE102.out) | exact HB.out))) | (with_reducible refine Kd.C_alloc ?_ _) | (with_reducible refine Kd.C_drewN ?_ _) | (with_reducible refine Kd.C_drew ?_))); (case side2 => exact HC0_3.out); (case side3 => repeat (first | exact (Kd.C_below HR1_3.out (by repeat (first | (with_reducible first | exact HB.out | apply below_alloc | apply pw_below_drewN | apply below_drew1 | refine below_set ?_ GE101.out | refine below_set ?_ GE102.out) | exact HB.out))) | (with_reducible refine Kd.C_alloc ?_ _) | (with_reducible refine Kd.C_drewN ?_ _) | (with_reducible refine Kd.C_drew ?_))); (case side4 => exact HC1_3.out); rintro e w19 ⟨rfl, hb⟩; refine ⟨_, rfl, ?_⟩; have n0_ := Aside0.mk (blk_below (g := gb101) (o := .cells #[.slice A0_0 l0_0.length c0_0, .int .i64 a0_1, .slice A0_2 l0_2.length c0_2, .slice A0_3 l0_3.length c0_3, .slice A0_4 l0_4.length c0_4, .int .i64 a0_5, .int .i64 a0_6] 28 (0, 0)) (by (with_reducible repeat (first | refine blk_drewN ?_ _ | refine blk_drew ?_ | refine blk_alloc ?_ _)); exact BK101.out) hb); have n1_ := Aside0.mk (blk_below (g := gb102) (o := .cells #[.slice A1_0 l1_0.length c1_0, .int .i64 a1_1, .slice A1_2 l1_2.length c1_2, .slice A1_3 l1_3.length c1_3, .slice A1_4 l1_4.length c1_4, .int .i64 a1_5, .int .i64 a1_6] 28 (0, 0)) (by (with_reducible repeat (first | refine blk_drewN ?_ _ | refine blk_drew ?_ | refine blk_alloc ?_ _)); exact BK102.out) hb); have n2_ := Aside0.mk (below_step (by repeat (first | (with_reducible first | exact HB.out | apply below_alloc | apply pw_below_drewN | apply below_drew1 | refine below_set ?_ GE101.out | refine below_set ?_ GE102.out) | exact HB.out)) hb); clear BK101; clear BK102; clear HB; have BK101 := n0_; have BK102 := n1_; have HB := n2_; clear n0_ n1_ n2_; (try clear hb); (try clear hb2); (try clear hk); (try clear hi); have hcz20_0 : w19.cell? ⟨gb101, 0, none⟩ = some (.slice A0_0 l0_0.length c0_0) := (blk_cell BK101.out 0).trans rfl; have hcz20_1 : w19.cell? ⟨gb101, 1, none⟩ = some (.int .i64 a0_1) := (blk_cell BK101.out 1).trans rfl; have hcz20_2 : w19.cell? ⟨gb101, 2, none⟩ = some (.slice A0_2 l0_2.length c0_2) := (blk_cell BK101.out 2).trans rfl; have hcz20_3 : w19.cell? ⟨gb101, 3, none⟩ = some (.slice A0_3 l0_3.length c0_3) := (blk_cell BK101.out 3).trans rfl; have hcz20_4 : w19.cell? ⟨gb101, 4, none⟩ = some (.slice A0_4 l0_4.length c0_4) := (blk_cell BK101.out 4).trans rfl; have hcz20_5 : w19.cell? ⟨gb101, 5, none⟩ = some (.int .i64 a0_5) := (blk_cell BK101.out 5).trans rfl; have hcz20_6 : w19.cell? ⟨gb101, 6, none⟩ = some (.int .i64 a0_6) := (blk_cell BK101.out 6).trans rfl; have hfz20_0 := blk_frozen BK101.out 0; have hfz20_1 := blk_frozen BK101.out 1; have hfz20_2 := blk_frozen BK101.out 2; have hfz20_3 := blk_frozen BK101.out 3; have hfz20_4 := blk_frozen BK101.out 4; have hfz20_5 := blk_frozen BK101.out 5; have hfz20_6 := blk_frozen BK101.out 6; have hcz21_0 : w19.cell? ⟨gb102, 0, none⟩ = some (.slice A1_0 l1_0.length c1_0) := (blk_cell BK102.out 0).trans rfl; have hcz21_1 : w19.cell? ⟨gb102, 1, none⟩ = some (.int .i64 a1_1) := (blk_cell BK102.out 1).trans rfl; have hcz21_2 : w19.cell? ⟨gb102, 2, none⟩ = some (.slice A1_2 l1_2.length c1_2) := (blk_cell BK102.out 2).trans rfl; have hcz21_3 : w19.cell? ⟨gb102, 3, none⟩ = some (.slice A1_3 l1_3.length c1_3) := (blk_cell BK102.out 3).trans rfl; have hcz21_4 : w19.cell? ⟨gb102, 4, none⟩ = some (.slice A1_4 l1_4.length c1_4) := (blk_cell BK102.out 4).trans rfl; have hcz21_5 : w19.cell? ⟨gb102, 5, none⟩ = some (.int .i64 a1_5) := (blk_cell BK102.out 5).trans rfl; have hcz21_6 : w19.cell? ⟨gb102, 6, none⟩ = some (.int .i64 a1_6) := (blk_cell BK102.out 6).trans rfl; have hfz21_0 := blk_frozen BK102.out 0; have hfz21_1 := blk_frozen BK102.out 1; have hfz21_2 := blk_frozen BK102.out 2; have hfz21_3 := blk_frozen BK102.out 3; have hfz21_4 := blk_frozen BK102.out 4; have hfz21_5 := blk_frozen BK102.out 5; have hfz21_6 := blk_frozen BK102.out 6) | ((with_reducible refine gate_callee (f := 22) rfl ?_); refine goesL_ (some 32) rfl rfl Try.func22 (by kernel_rfl) rfl #[.slice A0_4 l0_4.length c0_4, .slice A1_4 l1_4.length c1_4] rfl (by (try simp only [List.map_toArray, List.map_cons, List.map_nil]); first | done | rfl | (simp only [List.length_drop, List.length_take]; rfl)) ?_; (with_reducible refine (laws_eqIntS.calls k _ _ l0_4 _ _ l1_4 true _ ?side1 ?side2 ?side3 ?side4 A10.out).mono ?_); (case side1 => repeat (first | exact (Kd.C_below HR0_4.out HB.out) | (with_reducible refine Kd.C_alloc ?_ _) | (with_reducible refine Kd.C_drewN ?_ _) | (with_reducible refine Kd.C_drew ?_))); (case side2 => exact HC0_4.out); (case side3 => repeat (first | exact (Kd.C_below HR1_4.out HB.out) | (with_reducible refine Kd.C_alloc ?_ _) | (with_reducible refine Kd.C_drewN ?_ _) | (with_reducible refine Kd.C_drew ?_))); (case side4 => exact HC1_4.out); rintro e w' ⟨rfl, ⟨nd, rfl⟩⟩; refine ⟨_, rfl, ?_⟩))
        go_ret
        exact ⟨by first | rfl | (simp [errW_none, errW_some] <;> rfl) | (simp [*, errW_none, errW_some] <;> rfl), by repeat (first | (with_reducible first | exact HB.out | apply below_alloc | apply pw_below_drewN | apply below_drew1 | refine below_set ?_ GE101.out | refine below_set ?_ GE102.out) | exact HB.out)⟩
       ·rw [if_neg c13] at H
        have c13b0 : (a0_6 == a1_6) = false := beq_eq_false_iff_ne.mpr c13
        have c13b1 : (a0_6 != a1_6) = true := bne_iff_ne.mpr c13
        obtain rfl := Option.some.inj H
        go_enter Try.func20, Try.ntmps20
        go_wp2_with (first | ((with_reducible refine gate_dst (N := 2) rfl ?_); refine box_event ?hg (N := 2) ?hd (cs := #[.slice A0_0 l0_0.length c0_0, .int .i64 a0_1, .slice A0_2 l0_2.length c0_2, .slice A0_3 l0_3.length c0_3, .slice A0_4 l0_4.length c0_4, .int .i64 a0_5, .int .i64 a0_6]) (t := 28) ?hr ?_; (case hd => rfl); (case hg => rfl); (case hr => first | (go_simp; done) | (go_simp; rfl)); intro gb101 hg w22 hbox hb; have n0_ := Aside0.mk (below_step (by repeat (first | (with_reducible first | exact HB.out | apply below_alloc | apply pw_below_drewN | apply below_drew1) | exact HB.out)) hb); have n1_ := Aside0.mk (hbox); have n2_ := Aside0.mk ((by rw [hg]; exact (below_size (by repeat (first | (with_reducible first | exact HB.out | apply below_alloc | apply pw_below_drewN | apply below_drew1) | exact HB.out))) : w.heap.size ≤ gb101)); have n3_ := Aside0.mk ((by rw [hg]; exact (below_size (by repeat (first | (with_reducible first | exact HB.out | apply below_alloc | apply pw_below_drewN | apply below_drew1) | exact HB.out))) : w.heap.size ≤ gb101)); clear HB; have HB := n0_; have BK101 := n1_; have GW101 := n2_; have GE101 := n3_; clear n0_ n1_ n2_ n3_; clear hb hbox hg) | ((with_reducible refine gate_dst (N := 3) rfl ?_); refine box_event ?hg (N := 3) ?hd (cs := #[.slice A1_0 l1_0.length c1_0, .int .i64 a1_1, .slice A1_2 l1_2.length c1_2, .slice A1_3 l1_3.length c1_3, .slice A1_4 l1_4.length c1_4, .int .i64 a1_5, .int .i64 a1_6]) (t := 28) ?hr ?_; (case hd => rfl); (case hg => rfl); (case hr => first | (go_simp; done) | (go_simp; rfl)); intro gb102 hg w23 hbox hb; have n0_ := Aside0.mk (blk_below (g := gb101) (o := .cells #[.slice A0_0 l0_0.length c0_0, .int .i64 a0_1, .slice A0_2 l0_2.length c0_2, .slice A0_3 l0_3.length c0_3, .slice A0_4 l0_4.length c0_4, .int .i64 a0_5, .int .i64 a0_6] 28 (0, 0)) (by (with_reducible repeat (first | refine blk_drewN ?_ _ | refine blk_drew ?_ | refine blk_alloc ?_ _)); exact BK101.out) hb); have n1_ := Aside0.mk (below_step (by repeat (first | (with_reducible first | exact HB.out | apply below_alloc | apply pw_below_drewN | apply below_drew1 | refine below_set ?_ GE101.out) | exact HB.out)) hb); have n2_ := Aside0.mk (hbox); have n3_ := Aside0.mk ((by rw [hg]; exact (below_size (by repeat (first | (with_reducible first | exact HB.out | apply below_alloc | apply pw_below_drewN | apply below_drew1 | refine below_set ?_ GE101.out) | exact HB.out))) : w.heap.size ≤ gb102)); have n4_ := Aside0.mk ((by rw [hg]; exact (below_size (by repeat (first | (with_reducible first | exact HB.out | apply below_alloc | apply pw_below_drewN | apply below_drew1 | refine below_set ?_ GE101.out) | exact HB.out))) : w.heap.size ≤ gb102)); have n5_ := Aside0.mk ((by rw [hg]; exact Nat.ne_of_lt (blk_lt (g := gb101) (o := .cells #[.slice A0_0 l0_0.length c0_0, .int .i64 a0_1, .slice A0_2 l0_2.length c0_2, .slice A0_3 l0_3.length c0_3, .slice A0_4 l0_4.length c0_4, .int .i64 a0_5, .int .i64 a0_6] 28 (0, 0)) (by (with_reducible repeat (first | refine blk_drewN ?_ _ | refine blk_drew ?_ | refine blk_alloc ?_ _)); exact BK101.out)) : gb101 ≠ gb102)); have n6_ := Aside0.mk ((by rw [hg]; exact Nat.ne_of_gt (blk_lt (g := gb101) (o := .cells #[.slice A0_0 l0_0.length c0_0, .int .i64 a0_1, .slice A0_2 l0_2.length c0_2, .slice A0_3 l0_3.length c0_3, .slice A0_4 l0_4.length c0_4, .int .i64 a0_5, .int .i64 a0_6] 28 (0, 0)) (by (with_reducible repeat (first | refine blk_drewN ?_ _ | refine blk_drew ?_ | refine blk_alloc ?_ _)); exact BK101.out)) : gb102 ≠ gb101)); clear BK101; clear HB; have BK101 := n0_; have HB := n1_; have BK102 := n2_; have GW102 := n3_; have GE102 := n4_; have NB101_102 := n5_; have NB102_101 := n6_; clear n0_ n1_ n2_ n3_ n4_ n5_ n6_; clear hb hbox hg; have hnb24 := NB101_102.out; have hnc24 := NB102_101.out; have hcz25_0 : w23.cell? ⟨gb101, 0, none⟩ = some (.slice A0_0 l0_0.length c0_0) := (blk_cell BK101.out 0).trans rfl; have hcz25_1 : w23.cell? ⟨gb101, 1, none⟩ = some (.int .i64 a0_1) := (blk_cell BK101.out 1).trans rfl; have hcz25_2 : w23.cell? ⟨gb101, 2, none⟩ = some (.slice A0_2 l0_2.length c0_2) := (blk_cell BK101.out 2).trans rfl; have hcz25_3 : w23.cell? ⟨gb101, 3, none⟩ = some (.slice A0_3 l0_3.length c0_3) := (blk_cell BK101.out 3).trans rfl; have hcz25_4 : w23.cell? ⟨gb101, 4, none⟩ = some (.slice A0_4 l0_4.length c0_4) := (blk_cell BK101.out 4).trans rfl; have hcz25_5 : w23.cell? ⟨gb101, 5, none⟩ = some (.int .i64 a0_5) := (blk_cell BK101.out 5).trans rfl; have hcz25_6 : w23.cell? ⟨gb101, 6, none⟩ = some (.int .i64 a0_6) := (blk_cell BK101.out 6).trans rfl; have hfz25_0 := blk_frozen BK101.out 0; have hfz25_1 := blk_frozen BK101.out 1; have hfz25_2 := blk_frozen BK101.out 2; have hfz25_3 := blk_frozen BK101.out 3; have hfz25_4 := blk_frozen BK101.out 4; have hfz25_5 := blk_frozen BK101.out 5; have hfz25_6 := blk_frozen BK101.out 6; have hcz26_0 : w23.cell? ⟨gb102, 0, none⟩ = some (.slice A1_0 l1_0.length c1_0) := (blk_cell BK102.out 0).trans rfl; have hcz26_1 : w23.cell? ⟨gb102, 1, none⟩ = some (.int .i64 a1_1) := (blk_cell BK102.out 1).trans rfl; have hcz26_2 : w23.cell? ⟨gb102, 2, none⟩ = some (.slice A1_2 l1_2.length c1_2) := (blk_cell BK102.out 2).trans rfl; have hcz26_3 : w23.cell? ⟨gb102, 3, none⟩ = some (.slice A1_3 l1_3.length c1_3) := (blk_cell BK102.out 3).trans rfl; have hcz26_4 : w23.cell? ⟨gb102, 4, none⟩ = some (.slice A1_4 l1_4.length c1_4) := (blk_cell BK102.out 4).trans rfl; have hcz26_5 : w23.cell? ⟨gb102, 5, none⟩ = some (.int .i64 a1_5) := (blk_cell BK102.out 5).trans rfl; have hcz26_6 : w23.cell? ⟨gb102, 6, none⟩ = some (.int .i64 a1_6) := (blk_cell BK102.out 6).trans rfl; have hfz26_0 := blk_frozen BK102.out 0; have hfz26_1 := blk_frozen BK102.out 1; have hfz26_2 := blk_frozen BK102.out 2; have hfz26_3 := blk_frozen BK102.out 3; have hfz26_4 := blk_frozen BK102.out 4; have hfz26_5 := blk_frozen BK102.out 5; have hfz26_6 := blk_frozen BK102.out 6) | ((with_reducible refine gate_callee (f := 22) rfl ?_); refine goesL_ (some 9) rfl rfl Try.func22 (by kernel_rfl) rfl #[.slice A0_0 l0_0.length c0_0, .slice A1_0 l1_0.length c1_0] rfl (by (try simp only [List.map_toArray, List.map_cons, List.map_nil]); first | done | rfl | (simp only [List.length_drop, List.length_take]; rfl)) ?_; (with_reducible refine (laws_eqIntS.calls k _ _ l0_0 _ _ l1_0 true _ ?side1 ?side2 ?side3 ?side4 A3.out).mono ?_); (case side1 => repeat (first | exact (Kd.C_below HR0_0.out HB.out) | (with_reducible refine Kd.C_alloc ?_ _) | (with_reducible refine Kd.C_drewN ?_ _) | (with_reducible refine Kd.C_drew ?_))); (case side2 => exact HC0_0.out); (case side3 => repeat (first | exact (Kd.C_below HR1_0.out HB.out) | (with_reducible refine Kd.C_alloc ?_ _) | (with_reducible refine Kd.C_drewN ?_ _) | (with_reducible refine Kd.C_drew ?_))); (case side4 => exact HC1_0.out); rintro e w' ⟨rfl, ⟨nd, rfl⟩⟩; refine ⟨_, rfl, ?_⟩) | ((with_reducible refine gate_callee (f := 22) rfl ?_); refine goesL_ (some 20) rfl rfl Try.func22 (by kernel_rfl) rfl #[.slice A0_2 l0_2.length c0_2, .slice A1_2 l1_2.length c1_2] rfl (by (try simp only [List.map_toArray, List.map_cons, List.map_nil]); first | done | rfl | (simp only [List.length_drop, List.length_take]; rfl)) ?_; (with_reducible refine (laws_eqIntS.calls k _ _ l0_2 _ _ l1_2 true _ ?side1 ?side2 ?side3 ?side4 A6.out).mono ?_); (case side1 => repeat (first | exact (Kd.C_below HR0_2.out (by repeat (first | (with_reducible first | exact HB.out | apply below_alloc | apply pw_below_drewN | apply below_drew1 | refine below_set ?_ GE101.out | refine below_set ?_ GE102.out) | exact HB.out))) | (with_reducible refine Kd.C_alloc ?_ _) | (with_reducible refine Kd.C_drewN ?_ _) | (with_reducible refine Kd.C_drew ?_))); (case side2 => exact HC0_2.out); (case side3 => repeat (first | exact (Kd.C_below HR1_2.out (by repeat (first | (with_reducible first | exact HB.out | apply below_alloc | apply pw_below_drewN | apply below_drew1 | refine below_set ?_ GE101.out | refine below_set ?_ GE102.out) | exact HB.out))) | (with_reducible refine Kd.C_alloc ?_ _) | (with_reducible refine Kd.C_drewN ?_ _) | (with_reducible refine Kd.C_drew ?_))); (case side4 => exact HC1_2.out); rintro e w' ⟨rfl, ⟨nd, rfl⟩⟩; refine ⟨_, rfl, ?_⟩) | ((with_reducible refine gate_callee (f := 51) rfl ?_); refine goesL_ (some 26) rfl rfl Try.func51 (by kernel_rfl) rfl #[.slice A0_3 l0_3.length c0_3, .slice A1_3 l1_3.length c1_3] rfl (by (try simp only [List.map_toArray, List.map_cons, List.map_nil]); first | done | rfl | (simp only [List.length_drop, List.length_take]; rfl)) ?_; (with_reducible refine (laws_eqPreparedS.calls k _ _ l0_3 _ _ l1_3 true _ ?side1 ?side2 ?side3 ?side4 A8.out).mono ?_); (case side1 => repeat (first | exact (Kd.C_below HR0_3.out (by repeat (first | (with_reducible first | exact HB.out | apply below_alloc | apply pw_below_drewN | apply below_drew1 | refine below_set ?_ GE101.out | refine below_set ?_ GE102.out) | exact HB.out))) | (with_reducible refine Kd.C_alloc ?_ _) | (with_reducible refine Kd.C_drewN ?_ _) | (with_reducible refine Kd.C_drew ?_))); (case side2 => exact HC0_3.out); (case side3 => repeat (first | exact (Kd.C_below HR1_3.out (by repeat (first | (with_reducible first | exact HB.out | apply below_alloc | apply pw_below_drewN | apply below_drew1 | refine below_set ?_ GE101.out | refine below_set ?_ GE102.out) | exact HB.out))) | (with_reducible refine Kd.C_alloc ?_ _) | (with_reducible refine Kd.C_drewN ?_ _) | (with_reducible refine Kd.C_drew ?_))); (case side4 => exact HC1_3.out); rintro e w27 ⟨rfl, hb⟩; refine ⟨_, rfl, ?_⟩; have n0_ := Aside0.mk (blk_below (g := gb101) (o := .cells #[.slice A0_0 l0_0.length c0_0, .int .i64 a0_1, .slice A0_2 l0_2.length c0_2, .slice A0_3 l0_3.length c0_3, .slice A0_4 l0_4.length c0_4, .int .i64 a0_5, .int .i64 a0_6] 28 (0, 0)) (by (with_reducible repeat (first | refine blk_drewN ?_ _ | refine blk_drew ?_ | refine blk_alloc ?_ _)); exact BK101.out) hb); have n1_ := Aside0.mk (blk_below (g := gb102) (o := .cells #[.slice A1_0 l1_0.length c1_0, .int .i64 a1_1, .slice A1_2 l1_2.length c1_2, .slice A1_3 l1_3.length c1_3, .slice A1_4 l1_4.length c1_4, .int .i64 a1_5, .int .i64 a1_6] 28 (0, 0)) (by (with_reducible repeat (first | refine blk_drewN ?_ _ | refine blk_drew ?_ | refine blk_alloc ?_ _)); exact BK102.out) hb); have n2_ := Aside0.mk (below_step (by repeat (first | (with_reducible first | exact HB.out | apply below_alloc | apply pw_below_drewN | apply below_drew1 | refine below_set ?_ GE101.out | refine below_set ?_ GE102.out) | exact HB.out)) hb); clear BK101; clear BK102; clear HB; have BK101 := n0_; have BK102 := n1_; have HB := n2_; clear n0_ n1_ n2_; (try clear hb); (try clear hb2); (try clear hk); (try clear hi); have hcz28_0 : w27.cell? ⟨gb101, 0, none⟩ = some (.slice A0_0 l0_0.length c0_0) := (blk_cell BK101.out 0).trans rfl; have hcz28_1 : w27.cell? ⟨gb101, 1, none⟩ = some (.int .i64 a0_1) := (blk_cell BK101.out 1).trans rfl; have hcz28_2 : w27.cell? ⟨gb101, 2, none⟩ = some (.slice A0_2 l0_2.length c0_2) := (blk_cell BK101.out 2).trans rfl; have hcz28_3 : w27.cell? ⟨gb101, 3, none⟩ = some (.slice A0_3 l0_3.length c0_3) := (blk_cell BK101.out 3).trans rfl; have hcz28_4 : w27.cell? ⟨gb101, 4, none⟩ = some (.slice A0_4 l0_4.length c0_4) := (blk_cell BK101.out 4).trans rfl; have hcz28_5 : w27.cell? ⟨gb101, 5, none⟩ = some (.int .i64 a0_5) := (blk_cell BK101.out 5).trans rfl; have hcz28_6 : w27.cell? ⟨gb101, 6, none⟩ = some (.int .i64 a0_6) := (blk_cell BK101.out 6).trans rfl; have hfz28_0 := blk_frozen BK101.out 0; have hfz28_1 := blk_frozen BK101.out 1; have hfz28_2 := blk_frozen BK101.out 2; have hfz28_3 := blk_frozen BK101.out 3; have hfz28_4 := blk_frozen BK101.out 4; have hfz28_5 := blk_frozen BK101.out 5; have hfz28_6 := blk_frozen BK101.out 6; have hcz29_0 : w27.cell? ⟨gb102, 0, none⟩ = some (.slice A1_0 l1_0.length c1_0) := (blk_cell BK102.out 0).trans rfl; have hcz29_1 : w27.cell? ⟨gb102, 1, none⟩ = some (.int .i64 a1_1) := (blk_cell BK102.out 1).trans rfl; have hcz29_2 : w27.cell? ⟨gb102, 2, none⟩ = some (.slice A1_2 l1_2.length c1_2) := (blk_cell BK102.out 2).trans rfl; have hcz29_3 : w27.cell? ⟨gb102, 3, none⟩ = some (.slice A1_3 l1_3.length c1_3) := (blk_cell BK102.out 3).trans rfl; have hcz29_4 : w27.cell? ⟨gb102, 4, none⟩ = some (.slice A1_4 l1_4.length c1_4) := (blk_cell BK102.out 4).trans rfl; have hcz29_5 : w27.cell? ⟨gb102, 5, none⟩ = some (.int .i64 a1_5) := (blk_cell BK102.out 5).trans rfl; have hcz29_6 : w27.cell? ⟨gb102, 6, none⟩ = some (.int .i64 a1_6) := (blk_cell BK102.out 6).trans rfl; have hfz29_0 := blk_frozen BK102.out 0; have hfz29_1 := blk_frozen BK102.out 1; have hfz29_2 := blk_frozen BK102.out 2; have hfz29_3 := blk_frozen BK102.out 3; have hfz29_4 := blk_frozen BK102.out 4; have hfz29_5 := blk_frozen BK102.out 5; have hfz29_6 := blk_frozen BK102.out 6) | ((with_reducible refine gate_callee (f := 22) rfl ?_); refine goesL_ (some 32) rfl rfl Try.func22 (by kernel_rfl) rfl #[.slice A0_4 l0_4.length c0_4, .slice A1_4 l1_4.length c1_4] rfl (by (try simp only [List.map_toArray, List.map_cons, List.map_nil]); first | done | rfl | (simp only [List.length_drop, List.length_take]; rfl)) ?_; (with_reducible refine (laws_eqIntS.calls k _ _ l0_4 _ _ l1_4 true _ ?side1 ?side2 ?side3 ?side4 A10.out).mono ?_); (case side1 => repeat (first | exact (Kd.C_below HR0_4.out HB.out) | (with_reducible refine Kd.C_alloc ?_ _) | (with_reducible refine Kd.C_drewN ?_ _) | (with_reducible refine Kd.C_drew ?_))); (case side2 => exact HC0_4.out); (case side3 => repeat (first | exact (Kd.C_below HR1_4.out HB.out) | (with_reducible refine Kd.C_alloc ?_ _) | (with_reducible refine Kd.C_drewN ?_ _) | (with_reducible refine Kd.C_drew ?_))); (case side4 => exact HC1_4.out); rintro e w' ⟨rfl, ⟨nd, rfl⟩⟩; refine ⟨_, rfl, ?_⟩))
        go_ret
        exact ⟨by first | rfl | (simp [errW_none, errW_some] <;> rfl) | (simp [*, errW_none, errW_some] <;> rfl), by repeat (first | (with_reducible first | exact HB.out | apply below_alloc | apply pw_below_drewN | apply below_drew1 | refine below_set ?_ GE101.out | refine below_set ?_ GE102.out) | exact HB.out)⟩
      ·rw [if_neg c12] at H
       have c12b0 : (a0_5 == a1_5) = false := beq_eq_false_iff_ne.mpr c12
       have c12b1 : (a0_5 != a1_5) = true := bne_iff_ne.mpr c12
       obtain rfl := Option.some.inj H
       go_enter Try.func20, Try.ntmps20
       go_wp2_with (first | ((with_reducible refine gate_dst (N := 2) rfl ?_); refine box_event ?hg (N := 2) ?hd (cs := #[.slice A0_0 l0_0.length c0_0, .int .i64 a0_1, .slice A0_2 l0_2.length c0_2, .slice A0_3 l0_3.length c0_3, .slice A0_4 l0_4.length c0_4, .int .i64 a0_5, .int .i64 a0_6]) (t := 28) ?hr ?_; (case hd => rfl); (case hg => rfl); (case hr => first | (go_simp; done) | (go_simp; rfl)); intro gb101 hg w30 hbox hb; have n0_ := Aside0.mk (below_step (by repeat (first | (with_reducible first | exact HB.out | apply below_alloc | apply pw_below_drewN | apply below_drew1) | exact HB.out)) hb); have n1_ := Aside0.mk (hbox); have n2_ := Aside0.mk ((by rw [hg]; exact (below_size (by repeat (first | (with_reducible first | exact HB.out | apply below_alloc | apply pw_below_drewN | apply below_drew1) | exact HB.out))) : w.heap.size ≤ gb101)); have n3_ := Aside0.mk ((by rw [hg]; exact (below_size (by repeat (first | (with_reducible first | exact HB.out | apply below_alloc | apply pw_below_drewN | apply below_drew1) | exact HB.out))) : w.heap.size ≤ gb101)); clear HB; have HB := n0_; have BK101 := n1_; have GW101 := n2_; have GE101 := n3_; clear n0_ n1_ n2_ n3_; clear hb hbox hg) | ((with_reducible refine gate_dst (N := 3) rfl ?_); refine box_event ?hg (N := 3) ?hd (cs := #[.slice A1_0 l1_0.length c1_0, .int .i64 a1_1, .slice A1_2 l1_2.length c1_2, .slice A1_3 l1_3.length c1_3, .slice A1_4 l1_4.length c1_4, .int .i64 a1_5, .int .i64 a1_6]) (t := 28) ?hr ?_; (case hd => rfl); (case hg => rfl); (case hr => first | (go_simp; done) | (go_simp; rfl)); intro gb102 hg w31 hbox hb; have n0_ := Aside0.mk (blk_below (g := gb101) (o := .cells #[.slice A0_0 l0_0.length c0_0, .int .i64 a0_1, .slice A0_2 l0_2.length c0_2, .slice A0_3 l0_3.length c0_3, .slice A0_4 l0_4.length c0_4, .int .i64 a0_5, .int .i64 a0_6] 28 (0, 0)) (by (with_reducible repeat (first | refine blk_drewN ?_ _ | refine blk_drew ?_ | refine blk_alloc ?_ _)); exact BK101.out) hb); have n1_ := Aside0.mk (below_step (by repeat (first | (with_reducible first | exact HB.out | apply below_alloc | apply pw_below_drewN | apply below_drew1 | refine below_set ?_ GE101.out) | exact HB.out)) hb); have n2_ := Aside0.mk (hbox); have n3_ := Aside0.mk ((by rw [hg]; exact (below_size (by repeat (first | (with_reducible first | exact HB.out | apply below_alloc | apply pw_below_drewN | apply below_drew1 | refine below_set ?_ GE101.out) | exact HB.out))) : w.heap.size ≤ gb102)); have n4_ := Aside0.mk ((by rw [hg]; exact (below_size (by repeat (first | (with_reducible first | exact HB.out | apply below_alloc | apply pw_below_drewN | apply below_drew1 | refine below_set ?_ GE101.out) | exact HB.out))) : w.heap.size ≤ gb102)); have n5_ := Aside0.mk ((by rw [hg]; exact Nat.ne_of_lt (blk_lt (g := gb101) (o := .cells #[.slice A0_0 l0_0.length c0_0, .int .i64 a0_1, .slice A0_2 l0_2.length c0_2, .slice A0_3 l0_3.length c0_3, .slice A0_4 l0_4.length c0_4, .int .i64 a0_5, .int .i64 a0_6] 28 (0, 0)) (by (with_reducible repeat (first | refine blk_drewN ?_ _ | refine blk_drew ?_ | refine blk_alloc ?_ _)); exact BK101.out)) : gb101 ≠ gb102)); have n6_ := Aside0.mk ((by rw [hg]; exact Nat.ne_of_gt (blk_lt (g := gb101) (o := .cells #[.slice A0_0 l0_0.length c0_0, .int .i64 a0_1, .slice A0_2 l0_2.length c0_2, .slice A0_3 l0_3.length c0_3, .slice A0_4 l0_4.length c0_4, .int .i64 a0_5, .int .i64 a0_6] 28 (0, 0)) (by (with_reducible repeat (first | refine blk_drewN ?_ _ | refine blk_drew ?_ | refine blk_alloc ?_ _)); exact BK101.out)) : gb102 ≠ gb101)); clear BK101; clear HB; have BK101 := n0_; have HB := n1_; have BK102 := n2_; have GW102 := n3_; have GE102 := n4_; have NB101_102 := n5_; have NB102_101 := n6_; clear n0_ n1_ n2_ n3_ n4_ n5_ n6_; clear hb hbox hg; have hnb32 := NB101_102.out; have hnc32 := NB102_101.out; have hcz33_0 : w31.cell? ⟨gb101, 0, none⟩ = some (.slice A0_0 l0_0.length c0_0) := (blk_cell BK101.out 0).trans rfl; have hcz33_1 : w31.cell? ⟨gb101, 1, none⟩ = some (.int .i64 a0_1) := (blk_cell BK101.out 1).trans rfl; have hcz33_2 : w31.cell? ⟨gb101, 2, none⟩ = some (.slice A0_2 l0_2.length c0_2) := (blk_cell BK101.out 2).trans rfl; have hcz33_3 : w31.cell? ⟨gb101, 3, none⟩ = some (.slice A0_3 l0_3.length c0_3) := (blk_cell BK101.out 3).trans rfl; have hcz33_4 : w31.cell? ⟨gb101, 4, none⟩ = some (.slice A0_4 l0_4.length c0_4) := (blk_cell BK101.out 4).trans rfl; have hcz33_5 : w31.cell? ⟨gb101, 5, none⟩ = some (.int .i64 a0_5) := (blk_cell BK101.out 5).trans rfl; have hcz33_6 : w31.cell? ⟨gb101, 6, none⟩ = some (.int .i64 a0_6) := (blk_cell BK101.out 6).trans rfl; have hfz33_0 := blk_frozen BK101.out 0; have hfz33_1 := blk_frozen BK101.out 1; have hfz33_2 := blk_frozen BK101.out 2; have hfz33_3 := blk_frozen BK101.out 3; have hfz33_4 := blk_frozen BK101.out 4; have hfz33_5 := blk_frozen BK101.out 5; have hfz33_6 := blk_frozen BK101.out 6; have hcz34_0 : w31.cell? ⟨gb102, 0, none⟩ = some (.slice A1_0 l1_0.length c1_0) := (blk_cell BK102.out 0).trans rfl; have hcz34_1 : w31.cell? ⟨gb102, 1, none⟩ = some (.int .i64 a1_1) := (blk_cell BK102.out 1).trans rfl; have hcz34_2 : w31.cell? ⟨gb102, 2, none⟩ = some (.slice A1_2 l1_2.length c1_2) := (blk_cell BK102.out 2).trans rfl; have hcz34_3 : w31.cell? ⟨gb102, 3, none⟩ = some (.slice A1_3 l1_3.length c1_3) := (blk_cell BK102.out 3).trans rfl; have hcz34_4 : w31.cell? ⟨gb102, 4, none⟩ = some (.slice A1_4 l1_4.length c1_4) := (blk_cell BK102.out 4).trans rfl; have hcz34_5 : w31.cell? ⟨gb102, 5, none⟩ = some (.int .i64 a1_5) := (blk_cell BK102.out 5).trans rfl; have hcz34_6 : w31.cell? ⟨gb102, 6, none⟩ = some (.int .i64 a1_6) := (blk_cell BK102.out 6).trans rfl; have hfz34_0 := blk_frozen BK102.out 0; have hfz34_1 := blk_frozen BK102.out 1; have hfz34_2 := blk_frozen BK102.out 2; have hfz34_3 := blk_frozen BK102.out 3; have hfz34_4 := blk_frozen BK102.out 4; have hfz34_5 := blk_frozen BK102.out 5; have hfz34_6 := blk_frozen BK102.out 6) | ((with_reducible refine gate_callee (f := 22) rfl ?_); refine goesL_ (some 9) rfl rfl Try.func22 (by kernel_rfl) rfl #[.slice A0_0 l0_0.length c0_0, .slice A1_0 l1_0.length c1_0] rfl (by (try simp only [List.map_toArray, List.map_cons, List.map_nil]); first | done | rfl | (simp only [List.length_drop, List.length_take]; rfl)) ?_; (with_reducible refine (laws_eqIntS.calls k _ _ l0_0 _ _ l1_0 true _ ?side1 ?side2 ?side3 ?side4 A3.out).mono ?_); (case side1 => repeat (first | exact (Kd.C_below HR0_0.out HB.out) | (with_reducible refine Kd.C_alloc ?_ _) | (with_reducible refine Kd.C_drewN ?_ _) | (with_reducible refine Kd.C_drew ?_))); (case side2 => exact HC0_0.out); (case side3 => repeat (first | exact (Kd.C_below HR1_0.out HB.out) | (with_reducible refine Kd.C_alloc ?_ _) | (with_reducible refine Kd.C_drewN ?_ _) | (with_reducible refine Kd.C_drew ?_))); (case side4 => exact HC1_0.out); rintro e w' ⟨rfl, ⟨nd, rfl⟩⟩; refine ⟨_, rfl, ?_⟩) | ((with_reducible refine gate_callee (f := 22) rfl ?_); refine goesL_ (some 20) rfl rfl Try.func22 (by kernel_rfl) rfl #[.slice A0_2 l0_2.length c0_2, .slice A1_2 l1_2.length c1_2] rfl (by (try simp only [List.map_toArray, List.map_cons, List.map_nil]); first | done | rfl | (simp only [List.length_drop, List.length_take]; rfl)) ?_; (with_reducible refine (laws_eqIntS.calls k _ _ l0_2 _ _ l1_2 true _ ?side1 ?side2 ?side3 ?side4 A6.out).mono ?_); (case side1 => repeat (first | exact (Kd.C_below HR0_2.out (by repeat (first | (with_reducible first | exact HB.out | apply below_alloc | apply pw_below_drewN | apply below_drew1 | refine below_set ?_ GE101.out | refine below_set ?_ GE102.out) | exact HB.out))) | (with_reducible refine Kd.C_alloc ?_ _) | (with_reducible refine Kd.C_drewN ?_ _) | (with_reducible refine Kd.C_drew ?_))); (case side2 => exact HC0_2.out); (case side3 => repeat (first | exact (Kd.C_below HR1_2.out (by repeat (first | (with_reducible first | exact HB.out | apply below_alloc | apply pw_below_drewN | apply below_drew1 | refine below_set ?_ GE101.out | refine below_set ?_ GE102.out) | exact HB.out))) | (with_reducible refine Kd.C_alloc ?_ _) | (with_reducible refine Kd.C_drewN ?_ _) | (with_reducible refine Kd.C_drew ?_))); (case side4 => exact HC1_2.out); rintro e w' ⟨rfl, ⟨nd, rfl⟩⟩; refine ⟨_, rfl, ?_⟩) | ((with_reducible refine gate_callee (f := 51) rfl ?_); refine goesL_ (some 26) rfl rfl Try.func51 (by kernel_rfl) rfl #[.slice A0_3 l0_3.length c0_3, .slice A1_3 l1_3.length c1_3] rfl (by (try simp only [List.map_toArray, List.map_cons, List.map_nil]); first | done | rfl | (simp only [List.length_drop, List.length_take]; rfl)) ?_; (with_reducible refine (laws_eqPreparedS.calls k _ _ l0_3 _ _ l1_3 true _ ?side1 ?side2 ?side3 ?side4 A8.out).mono ?_); (case side1 => repeat (first | exact (Kd.C_below HR0_3.out (by repeat (first | (with_reducible first | exact HB.out | apply below_alloc | apply pw_below_drewN | apply below_drew1 | refine below_set ?_ GE101.out | refine below_set ?_ GE102.out) | exact HB.out))) | (with_reducible refine Kd.C_alloc ?_ _) | (with_reducible refine Kd.C_drewN ?_ _) | (with_reducible refine Kd.C_drew ?_))); (case side2 => exact HC0_3.out); (case side3 => repeat (first | exact (Kd.C_below HR1_3.out (by repeat (first | (with_reducible first | exact HB.out | apply below_alloc | apply pw_below_drewN | apply below_drew1 | refine below_set ?_ GE101.out | refine below_set ?_ GE102.out) | exact HB.out))) | (with_reducible refine Kd.C_alloc ?_ _) | (with_reducible refine Kd.C_drewN ?_ _) | (with_reducible refine Kd.C_drew ?_))); (case side4 => exact HC1_3.out); rintro e w35 ⟨rfl, hb⟩; refine ⟨_, rfl, ?_⟩; have n0_ := Aside0.mk (blk_below (g := gb101) (o := .cells #[.slice A0_0 l0_0.length c0_0, .int .i64 a0_1, .slice A0_2 l0_2.length c0_2, .slice A0_3 l0_3.length c0_3, .slice A0_4 l0_4.length c0_4, .int .i64 a0_5, .int .i64 a0_6] 28 (0, 0)) (by (with_reducible repeat (first | refine blk_drewN ?_ _ | refine blk_drew ?_ | refine blk_alloc ?_ _)); exact BK101.out) hb); have n1_ := Aside0.mk (blk_below (g := gb102) (o := .cells #[.slice A1_0 l1_0.length c1_0, .int .i64 a1_1, .slice A1_2 l1_2.length c1_2, .slice A1_3 l1_3.length c1_3, .slice A1_4 l1_4.length c1_4, .int .i64 a1_5, .int .i64 a1_6] 28 (0, 0)) (by (with_reducible repeat (first | refine blk_drewN ?_ _ | refine blk_drew ?_ | refine blk_alloc ?_ _)); exact BK102.out) hb); have n2_ := Aside0.mk (below_step (by repeat (first | (with_reducible first | exact HB.out | apply below_alloc | apply pw_below_drewN | apply below_drew1 | refine below_set ?_ GE101.out | refine below_set ?_ GE102.out) | exact HB.out)) hb); clear BK101; clear BK102; clear HB; have BK101 := n0_; have BK102 := n1_; have HB := n2_; clear n0_ n1_ n2_; (try clear hb); (try clear hb2); (try clear hk); (try clear hi); have hcz36_0 : w35.cell? ⟨gb101, 0, none⟩ = some (.slice A0_0 l0_0.length c0_0) := (blk_cell BK101.out 0).trans rfl; have hcz36_1 : w35.cell? ⟨gb101, 1, none⟩ = some (.int .i64 a0_1) := (blk_cell BK101.out 1).trans rfl; have hcz36_2 : w35.cell? ⟨gb101, 2, none⟩ = some (.slice A0_2 l0_2.length c0_2) := (blk_cell BK101.out 2).trans rfl; have hcz36_3 : w35.cell? ⟨gb101, 3, none⟩ = some (.slice A0_3 l0_3.length c0_3) := (blk_cell BK101.out 3).trans rfl; have hcz36_4 : w35.cell? ⟨gb101, 4, none⟩ = some (.slice A0_4 l0_4.length c0_4) := (blk_cell BK101.out 4).trans rfl; have hcz36_5 : w35.cell? ⟨gb101, 5, none⟩ = some (.int .i64 a0_5) := (blk_cell BK101.out 5).trans rfl; have hcz36_6 : w35.cell? ⟨gb101, 6, none⟩ = some (.int .i64 a0_6) := (blk_cell BK101.out 6).trans rfl; have hfz36_0 := blk_frozen BK101.out 0; have hfz36_1 := blk_frozen BK101.out 1; have hfz36_2 := blk_frozen BK101.out 2; have hfz36_3 := blk_frozen BK101.out 3; have hfz36_4 := blk_frozen BK101.out 4; have hfz36_5 := blk_frozen BK101.out 5; have hfz36_6 := blk_frozen BK101.out 6; have hcz37_0 : w35.cell? ⟨gb102, 0, none⟩ = some (.slice A1_0 l1_0.length c1_0) := (blk_cell BK102.out 0).trans rfl; have hcz37_1 : w35.cell? ⟨gb102, 1, none⟩ = some (.int .i64 a1_1) := (blk_cell BK102.out 1).trans rfl; have hcz37_2 : w35.cell? ⟨gb102, 2, none⟩ = some (.slice A1_2 l1_2.length c1_2) := (blk_cell BK102.out 2).trans rfl; have hcz37_3 : w35.cell? ⟨gb102, 3, none⟩ = some (.slice A1_3 l1_3.length c1_3) := (blk_cell BK102.out 3).trans rfl; have hcz37_4 : w35.cell? ⟨gb102, 4, none⟩ = some (.slice A1_4 l1_4.length c1_4) := (blk_cell BK102.out 4).trans rfl; have hcz37_5 : w35.cell? ⟨gb102, 5, none⟩ = some (.int .i64 a1_5) := (blk_cell BK102.out 5).trans rfl; have hcz37_6 : w35.cell? ⟨gb102, 6, none⟩ = some (.int .i64 a1_6) := (blk_cell BK102.out 6).trans rfl; have hfz37_0 := blk_frozen BK102.out 0; have hfz37_1 := blk_frozen BK102.out 1; have hfz37_2 := blk_frozen BK102.out 2; have hfz37_3 := blk_frozen BK102.out 3; have hfz37_4 := blk_frozen BK102.out 4; have hfz37_5 := blk_frozen BK102.out 5; have hfz37_6 := blk_frozen BK102.out 6) | ((with_reducible refine gate_callee (f := 22) rfl ?_); refine goesL_ (some 32) rfl rfl Try.func22 (by kernel_rfl) rfl #[.slice A0_4 l0_4.length c0_4, .slice A1_4 l1_4.length c1_4] rfl (by (try simp only [List.map_toArray, List.map_cons, List.map_nil]); first | done | rfl | (simp only [List.length_drop, List.length_take]; rfl)) ?_; (with_reducible refine (laws_eqIntS.calls k _ _ l0_4 _ _ l1_4 true _ ?side1 ?side2 ?side3 ?side4 A10.out).mono ?_); (case side1 => repeat (first | exact (Kd.C_below HR0_4.out HB.out) | (with_reducible refine Kd.C_alloc ?_ _) | (with_reducible refine Kd.C_drewN ?_ _) | (with_reducible refine Kd.C_drew ?_))); (case side2 => exact HC0_4.out); (case side3 => repeat (first | exact (Kd.C_below HR1_4.out HB.out) | (with_reducible refine Kd.C_alloc ?_ _) | (with_reducible refine Kd.C_drewN ?_ _) | (with_reducible refine Kd.C_drew ?_))); (case side4 => exact HC1_4.out); rintro e w' ⟨rfl, ⟨nd, rfl⟩⟩; refine ⟨_, rfl, ?_⟩))
       go_ret
       exact ⟨by first | rfl | (simp [errW_none, errW_some] <;> rfl) | (simp [*, errW_none, errW_some] <;> rfl), by repeat (first | (with_reducible first | exact HB.out | apply below_alloc | apply pw_below_drewN | apply below_drew1 | refine below_set ?_ GE101.out | refine below_set ?_ GE102.out) | exact HB.out)⟩
     ·replace c11 := Bool.eq_false_iff.mpr c11
      subst c11
      have H1 : (some false) = some r := by rw [if_neg (show ¬ (false = true) by decide)] at H; exact H
      clear H
      have H := H1
      clear H1
      obtain rfl := Option.some.inj H
      go_enter Try.func20, Try.ntmps20
      go_wp2_with (first | ((with_reducible refine gate_dst (N := 2) rfl ?_); refine box_event ?hg (N := 2) ?hd (cs := #[.slice A0_0 l0_0.length c0_0, .int .i64 a0_1, .slice A0_2 l0_2.length c0_2, .slice A0_3 l0_3.length c0_3, .slice A0_4 l0_4.length c0_4, .int .i64 a0_5, .int .i64 a0_6]) (t := 28) ?hr ?_; (case hd => rfl); (case hg => rfl); (case hr => first | (go_simp; done) | (go_simp; rfl)); intro gb101 hg w38 hbox hb; have n0_ := Aside0.mk (below_step (by repeat (first | (with_reducible first | exact HB.out | apply below_alloc | apply pw_below_drewN | apply below_drew1) | exact HB.out)) hb); have n1_ := Aside0.mk (hbox); have n2_ := Aside0.mk ((by rw [hg]; exact (below_size (by repeat (first | (with_reducible first | exact HB.out | apply below_alloc | apply pw_below_drewN | apply below_drew1) | exact HB.out))) : w.heap.size ≤ gb101)); have n3_ := Aside0.mk ((by rw [hg]; exact (below_size (by repeat (first | (with_reducible first | exact HB.out | apply below_alloc | apply pw_below_drewN | apply below_drew1) | exact HB.out))) : w.heap.size ≤ gb101)); clear HB; have HB := n0_; have BK101 := n1_; have GW101 := n2_; have GE101 := n3_; clear n0_ n1_ n2_ n3_; clear hb hbox hg) | ((with_reducible refine gate_dst (N := 3) rfl ?_); refine box_event ?hg (N := 3) ?hd (cs := #[.slice A1_0 l1_0.length c1_0, .int .i64 a1_1, .slice A1_2 l1_2.length c1_2, .slice A1_3 l1_3.length c1_3, .slice A1_4 l1_4.length c1_4, .int .i64 a1_5, .int .i64 a1_6]) (t := 28) ?hr ?_; (case hd => rfl); (case hg => rfl); (case hr => first | (go_simp; done) | (go_simp; rfl)); intro gb102 hg w39 hbox hb; have n0_ := Aside0.mk (blk_below (g := gb101) (o := .cells #[.slice A0_0 l0_0.length c0_0, .int .i64 a0_1, .slice A0_2 l0_2.length c0_2, .slice A0_3 l0_3.length c0_3, .slice A0_4 l0_4.length c0_4, .int .i64 a0_5, .int .i64 a0_6] 28 (0, 0)) (by (with_reducible repeat (first | refine blk_drewN ?_ _ | refine blk_drew ?_ | refine blk_alloc ?_ _)); exact BK101.out) hb); have n1_ := Aside0.mk (below_step (by repeat (first | (with_reducible first | exact HB.out | apply below_alloc | apply pw_below_drewN | apply below_drew1 | refine below_set ?_ GE101.out) | exact HB.out)) hb); have n2_ := Aside0.mk (hbox); have n3_ := Aside0.mk ((by rw [hg]; exact (below_size (by repeat (first | (with_reducible first | exact HB.out | apply below_alloc | apply pw_below_drewN | apply below_drew1 | refine below_set ?_ GE101.out) | exact HB.out))) : w.heap.size ≤ gb102)); have n4_ := Aside0.mk ((by rw [hg]; exact (below_size (by repeat (first | (with_reducible first | exact HB.out | apply below_alloc | apply pw_below_drewN | apply below_drew1 | refine below_set ?_ GE101.out) | exact HB.out))) : w.heap.size ≤ gb102)); have n5_ := Aside0.mk ((by rw [hg]; exact Nat.ne_of_lt (blk_lt (g := gb101) (o := .cells #[.slice A0_0 l0_0.length c0_0, .int .i64 a0_1, .slice A0_2 l0_2.length c0_2, .slice A0_3 l0_3.length c0_3, .slice A0_4 l0_4.length c0_4, .int .i64 a0_5, .int .i64 a0_6] 28 (0, 0)) (by (with_reducible repeat (first | refine blk_drewN ?_ _ | refine blk_drew ?_ | refine blk_alloc ?_ _)); exact BK101.out)) : gb101 ≠ gb102)); have n6_ := Aside0.mk ((by rw [hg]; exact Nat.ne_of_gt (blk_lt (g := gb101) (o := .cells #[.slice A0_0 l0_0.length c0_0, .int .i64 a0_1, .slice A0_2 l0_2.length c0_2, .slice A0_3 l0_3.length c0_3, .slice A0_4 l0_4.length c0_4, .int .i64 a0_5, .int .i64 a0_6] 28 (0, 0)) (by (with_reducible repeat (first | refine blk_drewN ?_ _ | refine blk_drew ?_ | refine blk_alloc ?_ _)); exact BK101.out)) : gb102 ≠ gb101)); clear BK101; clear HB; have BK101 := n0_; have HB := n1_; have BK102 := n2_; have GW102 := n3_; have GE102 := n4_; have NB101_102 := n5_; have NB102_101 := n6_; clear n0_ n1_ n2_ n3_ n4_ n5_ n6_; clear hb hbox hg; have hnb40 := NB101_102.out; have hnc40 := NB102_101.out; have hcz41_0 : w39.cell? ⟨gb101, 0, none⟩ = some (.slice A0_0 l0_0.length c0_0) := (blk_cell BK101.out 0).trans rfl; have hcz41_1 : w39.cell? ⟨gb101, 1, none⟩ = some (.int .i64 a0_1) := (blk_cell BK101.out 1).trans rfl; have hcz41_2 : w39.cell? ⟨gb101, 2, none⟩ = some (.slice A0_2 l0_2.length c0_2) := (blk_cell BK101.out 2).trans rfl; have hcz41_3 : w39.cell? ⟨gb101, 3, none⟩ = some (.slice A0_3 l0_3.length c0_3) := (blk_cell BK101.out 3).trans rfl; have hcz41_4 : w39.cell? ⟨gb101, 4, none⟩ = some (.slice A0_4 l0_4.length c0_4) := (blk_cell BK101.out 4).trans rfl; have hcz41_5 : w39.cell? ⟨gb101, 5, none⟩ = some (.int .i64 a0_5) := (blk_cell BK101.out 5).trans rfl; have hcz41_6 : w39.cell? ⟨gb101, 6, none⟩ = some (.int .i64 a0_6) := (blk_cell BK101.out 6).trans rfl; have hfz41_0 := blk_frozen BK101.out 0; have hfz41_1 := blk_frozen BK101.out 1; have hfz41_2 := blk_frozen BK101.out 2; have hfz41_3 := blk_frozen BK101.out 3; have hfz41_4 := blk_frozen BK101.out 4; have hfz41_5 := blk_frozen BK101.out 5; have hfz41_6 := blk_frozen BK101.out 6; have hcz42_0 : w39.cell? ⟨gb102, 0, none⟩ = some (.slice A1_0 l1_0.length c1_0) := (blk_cell BK102.out 0).trans rfl; have hcz42_1 : w39.cell? ⟨gb102, 1, none⟩ = some (.int .i64 a1_1) := (blk_cell BK102.out 1).trans rfl; have hcz42_2 : w39.cell? ⟨gb102, 2, none⟩ = some (.slice A1_2 l1_2.length c1_2) := (blk_cell BK102.out 2).trans rfl; have hcz42_3 : w39.cell? ⟨gb102, 3, none⟩ = some (.slice A1_3 l1_3.length c1_3) := (blk_cell BK102.out 3).trans rfl; have hcz42_4 : w39.cell? ⟨gb102, 4, none⟩ = some (.slice A1_4 l1_4.length c1_4) := (blk_cell BK102.out 4).trans rfl; have hcz42_5 : w39.cell? ⟨gb102, 5, none⟩ = some (.int .i64 a1_5) := (blk_cell BK102.out 5).trans rfl; have hcz42_6 : w39.cell? ⟨gb102, 6, none⟩ = some (.int .i64 a1_6) := (blk_cell BK102.out 6).trans rfl; have hfz42_0 := blk_frozen BK102.out 0; have hfz42_1 := blk_frozen BK102.out 1; have hfz42_2 := blk_frozen BK102.out 2; have hfz42_3 := blk_frozen BK102.out 3; have hfz42_4 := blk_frozen BK102.out 4; have hfz42_5 := blk_frozen BK102.out 5; have hfz42_6 := blk_frozen BK102.out 6) | ((with_reducible refine gate_callee (f := 22) rfl ?_); refine goesL_ (some 9) rfl rfl Try.func22 (by kernel_rfl) rfl #[.slice A0_0 l0_0.length c0_0, .slice A1_0 l1_0.length c1_0] rfl (by (try simp only [List.map_toArray, List.map_cons, List.map_nil]); first | done | rfl | (simp only [List.length_drop, List.length_take]; rfl)) ?_; (with_reducible refine (laws_eqIntS.calls k _ _ l0_0 _ _ l1_0 true _ ?side1 ?side2 ?side3 ?side4 A3.out).mono ?_); (case side1 => repeat (first | exact (Kd.C_below HR0_0.out HB.out) | (with_reducible refine Kd.C_alloc ?_ _) | (with_reducible refine Kd.C_drewN ?_ _) | (with_reducible refine Kd.C_drew ?_))); (case side2 => exact HC0_0.out); (case side3 => repeat (first | exact (Kd.C_below HR1_0.out HB.out) | (with_reducible refine Kd.C_alloc ?_ _) | (with_reducible refine Kd.C_drewN ?_ _) | (with_reducible refine Kd.C_drew ?_))); (case side4 => exact HC1_0.out); rintro e w' ⟨rfl, ⟨nd, rfl⟩⟩; refine ⟨_, rfl, ?_⟩) | ((with_reducible refine gate_callee (f := 22) rfl ?_); refine goesL_ (some 20) rfl rfl Try.func22 (by kernel_rfl) rfl #[.slice A0_2 l0_2.length c0_2, .slice A1_2 l1_2.length c1_2] rfl (by (try simp only [List.map_toArray, List.map_cons, List.map_nil]); first | done | rfl | (simp only [List.length_drop, List.length_take]; rfl)) ?_; (with_reducible refine (laws_eqIntS.calls k _ _ l0_2 _ _ l1_2 true _ ?side1 ?side2 ?side3 ?side4 A6.out).mono ?_); (case side1 => repeat (first | exact (Kd.C_below HR0_2.out (by repeat (first | (with_reducible first | exact HB.out | apply below_alloc | apply pw_below_drewN | apply below_drew1 | refine below_set ?_ GE101.out | refine below_set ?_ GE102.out) | exact HB.out))) | (with_reducible refine Kd.C_alloc ?_ _) | (with_reducible refine Kd.C_drewN ?_ _) | (with_reducible refine Kd.C_drew ?_))); (case side2 => exact HC0_2.out); (case side3 => repeat (first | exact (Kd.C_below HR1_2.out (by repeat (first | (with_reducible first | exact HB.out | apply below_alloc | apply pw_below_drewN | apply below_drew1 | refine below_set ?_ GE101.out | refine below_set ?_ GE102.out) | exact HB.out))) | (with_reducible refine Kd.C_alloc ?_ _) | (with_reducible refine Kd.C_drewN ?_ _) | (with_reducible refine Kd.C_drew ?_))); (case side4 => exact HC1_2.out); rintro e w' ⟨rfl, ⟨nd, rfl⟩⟩; refine ⟨_, rfl, ?_⟩) | ((with_reducible refine gate_callee (f := 51) rfl ?_); refine goesL_ (some 26) rfl rfl Try.func51 (by kernel_rfl) rfl #[.slice A0_3 l0_3.length c0_3, .slice A1_3 l1_3.length c1_3] rfl (by (try simp only [List.map_toArray, List.map_cons, List.map_nil]); first | done | rfl | (simp only [List.length_drop, List.length_take]; rfl)) ?_; (with_reducible refine (laws_eqPreparedS.calls k _ _ l0_3 _ _ l1_3 true _ ?side1 ?side2 ?side3 ?side4 A8.out).mono ?_); (case side1 => repeat (first | exact (Kd.C_below HR0_3.out (by repeat (first | (with_reducible first | exact HB.out | apply below_alloc | apply pw_below_drewN | apply below_drew1 | refine below_set ?_ GE101.out | refine below_set ?_ GE102.out) | exact HB.out))) | (with_reducible refine Kd.C_alloc ?_ _) | (with_reducible refine Kd.C_drewN ?_ _) | (with_reducible refine Kd.C_drew ?_))); (case side2 => exact HC0_3.out); (case side3 => repeat (first | exact (Kd.C_below HR1_3.out (by repeat (first | (with_reducible first | exact HB.out | apply below_alloc | apply pw_below_drewN | apply below_drew1 | refine below_set ?_ GE101.out | refine below_set ?_ GE102.out) | exact HB.out))) | (with_reducible refine Kd.C_alloc ?_ _) | (with_reducible refine Kd.C_drewN ?_ _) | (with_reducible refine Kd.C_drew ?_))); (case side4 => exact HC1_3.out); rintro e w43 ⟨rfl, hb⟩; refine ⟨_, rfl, ?_⟩; have n0_ := Aside0.mk (blk_below (g := gb101) (o := .cells #[.slice A0_0 l0_0.length c0_0, .int .i64 a0_1, .slice A0_2 l0_2.length c0_2, .slice A0_3 l0_3.length c0_3, .slice A0_4 l0_4.length c0_4, .int .i64 a0_5, .int .i64 a0_6] 28 (0, 0)) (by (with_reducible repeat (first | refine blk_drewN ?_ _ | refine blk_drew ?_ | refine blk_alloc ?_ _)); exact BK101.out) hb); have n1_ := Aside0.mk (blk_below (g := gb102) (o := .cells #[.slice A1_0 l1_0.length c1_0, .int .i64 a1_1, .slice A1_2 l1_2.length c1_2, .slice A1_3 l1_3.length c1_3, .slice A1_4 l1_4.length c1_4, .int .i64 a1_5, .int .i64 a1_6] 28 (0, 0)) (by (with_reducible repeat (first | refine blk_drewN ?_ _ | refine blk_drew ?_ | refine blk_alloc ?_ _)); exact BK102.out) hb); have n2_ := Aside0.mk (below_step (by repeat (first | (with_reducible first | exact HB.out | apply below_alloc | apply pw_below_drewN | apply below_drew1 | refine below_set ?_ GE101.out | refine below_set ?_ GE102.out) | exact HB.out)) hb); clear BK101; clear BK102; clear HB; have BK101 := n0_; have BK102 := n1_; have HB := n2_; clear n0_ n1_ n2_; (try clear hb); (try clear hb2); (try clear hk); (try clear hi); have hcz44_0 : w43.cell? ⟨gb101, 0, none⟩ = some (.slice A0_0 l0_0.length c0_0) := (blk_cell BK101.out 0).trans rfl; have hcz44_1 : w43.cell? ⟨gb101, 1, none⟩ = some (.int .i64 a0_1) := (blk_cell BK101.out 1).trans rfl; have hcz44_2 : w43.cell? ⟨gb101, 2, none⟩ = some (.slice A0_2 l0_2.length c0_2) := (blk_cell BK101.out 2).trans rfl; have hcz44_3 : w43.cell? ⟨gb101, 3, none⟩ = some (.slice A0_3 l0_3.length c0_3) := (blk_cell BK101.out 3).trans rfl; have hcz44_4 : w43.cell? ⟨gb101, 4, none⟩ = some (.slice A0_4 l0_4.length c0_4) := (blk_cell BK101.out 4).trans rfl; have hcz44_5 : w43.cell? ⟨gb101, 5, none⟩ = some (.int .i64 a0_5) := (blk_cell BK101.out 5).trans rfl; have hcz44_6 : w43.cell? ⟨gb101, 6, none⟩ = some (.int .i64 a0_6) := (blk_cell BK101.out 6).trans rfl; have hfz44_0 := blk_frozen BK101.out 0; have hfz44_1 := blk_frozen BK101.out 1; have hfz44_2 := blk_frozen BK101.out 2; have hfz44_3 := blk_frozen BK101.out 3; have hfz44_4 := blk_frozen BK101.out 4; have hfz44_5 := blk_frozen BK101.out 5; have hfz44_6 := blk_frozen BK101.out 6; have hcz45_0 : w43.cell? ⟨gb102, 0, none⟩ = some (.slice A1_0 l1_0.length c1_0) := (blk_cell BK102.out 0).trans rfl; have hcz45_1 : w43.cell? ⟨gb102, 1, none⟩ = some (.int .i64 a1_1) := (blk_cell BK102.out 1).trans rfl; have hcz45_2 : w43.cell? ⟨gb102, 2, none⟩ = some (.slice A1_2 l1_2.length c1_2) := (blk_cell BK102.out 2).trans rfl; have hcz45_3 : w43.cell? ⟨gb102, 3, none⟩ = some (.slice A1_3 l1_3.length c1_3) := (blk_cell BK102.out 3).trans rfl; have hcz45_4 : w43.cell? ⟨gb102, 4, none⟩ = some (.slice A1_4 l1_4.length c1_4) := (blk_cell BK102.out 4).trans rfl; have hcz45_5 : w43.cell? ⟨gb102, 5, none⟩ = some (.int .i64 a1_5) := (blk_cell BK102.out 5).trans rfl; have hcz45_6 : w43.cell? ⟨gb102, 6, none⟩ = some (.int .i64 a1_6) := (blk_cell BK102.out 6).trans rfl; have hfz45_0 := blk_frozen BK102.out 0; have hfz45_1 := blk_frozen BK102.out 1; have hfz45_2 := blk_frozen BK102.out 2; have hfz45_3 := blk_frozen BK102.out 3; have hfz45_4 := blk_frozen BK102.out 4; have hfz45_5 := blk_frozen BK102.out 5; have hfz45_6 := blk_frozen BK102.out 6) | ((with_reducible refine gate_callee (f := 22) rfl ?_); refine goesL_ (some 32) rfl rfl Try.func22 (by kernel_rfl) rfl #[.slice A0_4 l0_4.length c0_4, .slice A1_4 l1_4.length c1_4] rfl (by (try simp only [List.map_toArray, List.map_cons, List.map_nil]); first | done | rfl | (simp only [List.length_drop, List.length_take]; rfl)) ?_; (with_reducible refine (laws_eqIntS.calls k _ _ l0_4 _ _ l1_4 false _ ?side1 ?side2 ?side3 ?side4 A10.out).mono ?_); (case side1 => repeat (first | exact (Kd.C_below HR0_4.out HB.out) | (with_reducible refine Kd.C_alloc ?_ _) | (with_reducible refine Kd.C_drewN ?_ _) | (with_reducible refine Kd.C_drew ?_))); (case side2 => exact HC0_4.out); (case side3 => repeat (first | exact (Kd.C_below HR1_4.out HB.out) | (with_reducible refine Kd.C_alloc ?_ _) | (with_reducible refine Kd.C_drewN ?_ _) | (with_reducible refine Kd.C_drew ?_))); (case side4 => exact HC1_4.out); rintro e w' ⟨rfl, ⟨nd, rfl⟩⟩; refine ⟨_, rfl, ?_⟩))
      go_ret
      exact ⟨by first | rfl | (simp [errW_none, errW_some] <;> rfl) | (simp [*, errW_none, errW_some] <;> rfl), by repeat (first | (with_reducible first | exact HB.out | apply below_alloc | apply pw_below_drewN | apply below_drew1 | refine below_set ?_ GE101.out | refine below_set ?_ GE102.out) | exact HB.out)⟩
    ·replace c9 := Bool.eq_false_iff.mpr c9
     subst c9
     have H1 : (some false) = some r := by rw [if_neg (show ¬ (false = true) by decide)] at H; exact H
     clear H
     have H := H1
     clear H1
     obtain rfl := Option.some.inj H
     go_enter Try.func20, Try.ntmps20
     go_wp2_with (first | ((with_reducible refine gate_dst (N := 2) rfl ?_); refine box_event ?hg (N := 2) ?hd (cs := #[.slice A0_0 l0_0.length c0_0, .int .i64 a0_1, .slice A0_2 l0_2.length c0_2, .slice A0_3 l0_3.length c0_3, .slice A0_4 l0_4.length c0_4, .int .i64 a0_5, .int .i64 a0_6]) (t := 28) ?hr ?_; (case hd => rfl); (case hg => rfl); (case hr => first | (go_simp; done) | (go_simp; rfl)); intro gb101 hg w46 hbox hb; have n0_ := Aside0.mk (below_step (by repeat (first | (with_reducible first | exact HB.out | apply below_alloc | apply pw_below_drewN | apply below_drew1) | exact HB.out)) hb); have n1_ := Aside0.mk (hbox); have n2_ := Aside0.mk ((by rw [hg]; exact (below_size (by repeat (first | (with_reducible first | exact HB.out | apply below_alloc | apply pw_below_drewN | apply below_drew1) | exact HB.out))) : w.heap.size ≤ gb101)); have n3_ := Aside0.mk ((by rw [hg]; exact (below_size (by repeat (first | (with_reducible first | exact HB.out | apply below_alloc | apply pw_below_drewN | apply below_drew1) | exact HB.out))) : w.heap.size ≤ gb101)); clear HB; have HB := n0_; have BK101 := n1_; have GW101 := n2_; have GE101 := n3_; clear n0_ n1_ n2_ n3_; clear hb hbox hg) | ((with_reducible refine gate_dst (N := 3) rfl ?_); refine box_event ?hg (N := 3) ?hd (cs := #[.slice A1_0 l1_0.length c1_0, .int .i64 a1_1, .slice A1_2 l1_2.length c1_2, .slice A1_3 l1_3.length c1_3, .slice A1_4 l1_4.length c1_4, .int .i64 a1_5, .int .i64 a1_6]) (t := 28) ?hr ?_; (case hd => rfl); (case hg => rfl); (case hr => first | (go_simp; done) | (go_simp; rfl)); intro gb102 hg w47 hbox hb; have n0_ := Aside0.mk (blk_below (g := gb101) (o := .cells #[.slice A0_0 l0_0.length c0_0, .int .i64 a0_1, .slice A0_2 l0_2.length c0_2, .slice A0_3 l0_3.length c0_3, .slice A0_4 l0_4.length c0_4, .int .i64 a0_5, .int .i64 a0_6] 28 (0, 0)) (by (with_reducible repeat (first | refine blk_drewN ?_ _ | refine blk_drew ?_ | refine blk_alloc ?_ _)); exact BK101.out) hb); have n1_ := Aside0.mk (below_step (by repeat (first | (with_reducible first | exact HB.out | apply below_alloc | apply pw_below_drewN | apply below_drew1 | refine below_set ?_ GE101.out) | exact HB.out)) hb); have n2_ := Aside0.mk (hbox); have n3_ := Aside0.mk ((by rw [hg]; exact (below_size (by repeat (first | (with_reducible first | exact HB.out | apply below_alloc | apply pw_below_drewN | apply below_drew1 | refine below_set ?_ GE101.out) | exact HB.out))) : w.heap.size ≤ gb102)); have n4_ := Aside0.mk ((by rw [hg]; exact (below_size (by repeat (first | (with_reducible first | exact HB.out | apply below_alloc | apply pw_below_drewN | apply below_drew1 | refine below_set ?_ GE101.out) | exact HB.out))) : w.heap.size ≤ gb102)); have n5_ := Aside0.mk ((by rw [hg]; exact Nat.ne_of_lt (blk_lt (g := gb101) (o := .cells #[.slice A0_0 l0_0.length c0_0, .int .i64 a0_1, .slice A0_2 l0_2.length c0_2, .slice A0_3 l0_3.length c0_3, .slice A0_4 l0_4.length c0_4, .int .i64 a0_5, .int .i64 a0_6] 28 (0, 0)) (by (with_reducible repeat (first | refine blk_drewN ?_ _ | refine blk_drew ?_ | refine blk_alloc ?_ _)); exact BK101.out)) : gb101 ≠ gb102)); have n6_ := Aside0.mk ((by rw [hg]; exact Nat.ne_of_gt (blk_lt (g := gb101) (o := .cells #[.slice A0_0 l0_0.length c0_0, .int .i64 a0_1, .slice A0_2 l0_2.length c0_2, .slice A0_3 l0_3.length c0_3, .slice A0_4 l0_4.length c0_4, .int .i64 a0_5, .int .i64 a0_6] 28 (0, 0)) (by (with_reducible repeat (first | refine blk_drewN ?_ _ | refine blk_drew ?_ | refine blk_alloc ?_ _)); exact BK101.out)) : gb102 ≠ gb101)); clear BK101; clear HB; have BK101 := n0_; have HB := n1_; have BK102 := n2_; have GW102 := n3_; have GE102 := n4_; have NB101_102 := n5_; have NB102_101 := n6_; clear n0_ n1_ n2_ n3_ n4_ n5_ n6_; clear hb hbox hg; have hnb48 := NB101_102.out; have hnc48 := NB102_101.out; have hcz49_0 : w47.cell? ⟨gb101, 0, none⟩ = some (.slice A0_0 l0_0.length c0_0) := (blk_cell BK101.out 0).trans rfl; have hcz49_1 : w47.cell? ⟨gb101, 1, none⟩ = some (.int .i64 a0_1) := (blk_cell BK101.out 1).trans rfl; have hcz49_2 : w47.cell? ⟨gb101, 2, none⟩ = some (.slice A0_2 l0_2.length c0_2) := (blk_cell BK101.out 2).trans rfl; have hcz49_3 : w47.cell? ⟨gb101, 3, none⟩ = some (.slice A0_3 l0_3.length c0_3) := (blk_cell BK101.out 3).trans rfl; have hcz49_4 : w47.cell? ⟨gb101, 4, none⟩ = some (.slice A0_4 l0_4.length c0_4) := (blk_cell BK101.out 4).trans rfl; have hcz49_5 : w47.cell? ⟨gb101, 5, none⟩ = some (.int .i64 a0_5) := (blk_cell BK101.out 5).trans rfl; have hcz49_6 : w47.cell? ⟨gb101, 6, none⟩ = some (.int .i64 a0_6) := (blk_cell BK101.out 6).trans rfl; have hfz49_0 := blk_frozen BK101.out 0; have hfz49_1 := blk_frozen BK101.out 1; have hfz49_2 := blk_frozen BK101.out 2; have hfz49_3 := blk_frozen BK101.out 3; have hfz49_4 := blk_frozen BK101.out 4; have hfz49_5 := blk_frozen BK101.out 5; have hfz49_6 := blk_frozen BK101.out 6; have hcz50_0 : w47.cell? ⟨gb102, 0, none⟩ = some (.slice A1_0 l1_0.length c1_0) := (blk_cell BK102.out 0).trans rfl; have hcz50_1 : w47.cell? ⟨gb102, 1, none⟩ = some (.int .i64 a1_1) := (blk_cell BK102.out 1).trans rfl; have hcz50_2 : w47.cell? ⟨gb102, 2, none⟩ = some (.slice A1_2 l1_2.length c1_2) := (blk_cell BK102.out 2).trans rfl; have hcz50_3 : w47.cell? ⟨gb102, 3, none⟩ = some (.slice A1_3 l1_3.length c1_3) := (blk_cell BK102.out 3).trans rfl; have hcz50_4 : w47.cell? ⟨gb102, 4, none⟩ = some (.slice A1_4 l1_4.length c1_4) := (blk_cell BK102.out 4).trans rfl; have hcz50_5 : w47.cell? ⟨gb102, 5, none⟩ = some (.int .i64 a1_5) := (blk_cell BK102.out 5).trans rfl; have hcz50_6 : w47.cell? ⟨gb102, 6, none⟩ = some (.int .i64 a1_6) := (blk_cell BK102.out 6).trans rfl; have hfz50_0 := blk_frozen BK102.out 0; have hfz50_1 := blk_frozen BK102.out 1; have hfz50_2 := blk_frozen BK102.out 2; have hfz50_3 := blk_frozen BK102.out 3; have hfz50_4 := blk_frozen BK102.out 4; have hfz50_5 := blk_frozen BK102.out 5; have hfz50_6 := blk_frozen BK102.out 6) | ((with_reducible refine gate_callee (f := 22) rfl ?_); refine goesL_ (some 9) rfl rfl Try.func22 (by kernel_rfl) rfl #[.slice A0_0 l0_0.length c0_0, .slice A1_0 l1_0.length c1_0] rfl (by (try simp only [List.map_toArray, List.map_cons, List.map_nil]); first | done | rfl | (simp only [List.length_drop, List.length_take]; rfl)) ?_; (with_reducible refine (laws_eqIntS.calls k _ _ l0_0 _ _ l1_0 true _ ?side1 ?side2 ?side3 ?side4 A3.out).mono ?_); (case side1 => repeat (first | exact (Kd.C_below HR0_0.out HB.out) | (with_reducible refine Kd.C_alloc ?_ _) | (with_reducible refine Kd.C_drewN ?_ _) | (with_reducible refine Kd.C_drew ?_))); (case side2 => exact HC0_0.out); (case side3 => repeat (first | exact (Kd.C_below HR1_0.out HB.out) | (with_reducible refine Kd.C_alloc ?_ _) | (with_reducible refine Kd.C_drewN ?_ _) | (with_reducible refine Kd.C_drew ?_))); (case side4 => exact HC1_0.out); rintro e w' ⟨rfl, ⟨nd, rfl⟩⟩; refine ⟨_, rfl, ?_⟩) | ((with_reducible refine gate_callee (f := 22) rfl ?_); refine goesL_ (some 20) rfl rfl Try.func22 (by kernel_rfl) rfl #[.slice A0_2 l0_2.length c0_2, .slice A1_2 l1_2.length c1_2] rfl (by (try simp only [List.map_toArray, List.map_cons, List.map_nil]); first | done | rfl | (simp only [List.length_drop, List.length_take]; rfl)) ?_; (with_reducible refine (laws_eqIntS.calls k _ _ l0_2 _ _ l1_2 true _ ?side1 ?side2 ?side3 ?side4 A6.out).mono ?_); (case side1 => repeat (first | exact (Kd.C_below HR0_2.out (by repeat (first | (with_reducible first | exact HB.out | apply below_alloc | apply pw_below_drewN | apply below_drew1 | refine below_set ?_ GE101.out | refine below_set ?_ GE102.out) | exact HB.out))) | (with_reducible refine Kd.C_alloc ?_ _) | (with_reducible refine Kd.C_drewN ?_ _) | (with_reducible refine Kd.C_drew ?_))); (case side2 => exact HC0_2.out); (case side3 => repeat (first | exact (Kd.C_below HR1_2.out (by repeat (first | (with_reducible first | exact HB.out | apply below_alloc | apply pw_below_drewN | apply below_drew1 | refine below_set ?_ GE101.out | refine below_set ?_ GE102.out) | exact HB.out))) | (with_reducible refine Kd.C_alloc ?_ _) | (with_reducible refine Kd.C_drewN ?_ _) | (with_reducible refine Kd.C_drew ?_))); (case side4 => exact HC1_2.out); rintro e w' ⟨rfl, ⟨nd, rfl⟩⟩; refine ⟨_, rfl, ?_⟩) | ((with_reducible refine gate_callee (f := 51) rfl ?_); refine goesL_ (some 26) rfl rfl Try.func51 (by kernel_rfl) rfl #[.slice A0_3 l0_3.length c0_3, .slice A1_3 l1_3.length c1_3] rfl (by (try simp only [List.map_toArray, List.map_cons, List.map_nil]); first | done | rfl | (simp only [List.length_drop, List.length_take]; rfl)) ?_; (with_reducible refine (laws_eqPreparedS.calls k _ _ l0_3 _ _ l1_3 false _ ?side1 ?side2 ?side3 ?side4 A8.out).mono ?_); (case side1 => repeat (first | exact (Kd.C_below HR0_3.out (by repeat (first | (with_reducible first | exact HB.out | apply below_alloc | apply pw_below_drewN | apply below_drew1 | refine below_set ?_ GE101.out | refine below_set ?_ GE102.out) | exact HB.out))) | (with_reducible refine Kd.C_alloc ?_ _) | (with_reducible refine Kd.C_drewN ?_ _) | (with_reducible refine Kd.C_drew ?_))); (case side2 => exact HC0_3.out); (case side3 => repeat (first | exact (Kd.C_below HR1_3.out (by repeat (first | (with_reducible first | exact HB.out | apply below_alloc | apply pw_below_drewN | apply below_drew1 | refine below_set ?_ GE101.out | refine below_set ?_ GE102.out) | exact HB.out))) | (with_reducible refine Kd.C_alloc ?_ _) | (with_reducible refine Kd.C_drewN ?_ _) | (with_reducible refine Kd.C_drew ?_))); (case side4 => exact HC1_3.out); rintro e w51 ⟨rfl, hb⟩; refine ⟨_, rfl, ?_⟩; have n0_ := Aside0.mk (blk_below (g := gb101) (o := .cells #[.slice A0_0 l0_0.length c0_0, .int .i64 a0_1, .slice A0_2 l0_2.length c0_2, .slice A0_3 l0_3.length c0_3, .slice A0_4 l0_4.length c0_4, .int .i64 a0_5, .int .i64 a0_6] 28 (0, 0)) (by (with_reducible repeat (first | refine blk_drewN ?_ _ | refine blk_drew ?_ | refine blk_alloc ?_ _)); exact BK101.out) hb); have n1_ := Aside0.mk (blk_below (g := gb102) (o := .cells #[.slice A1_0 l1_0.length c1_0, .int .i64 a1_1, .slice A1_2 l1_2.length c1_2, .slice A1_3 l1_3.length c1_3, .slice A1_4 l1_4.length c1_4, .int .i64 a1_5, .int .i64 a1_6] 28 (0, 0)) (by (with_reducible repeat (first | refine blk_drewN ?_ _ | refine blk_drew ?_ | refine blk_alloc ?_ _)); exact BK102.out) hb); have n2_ := Aside0.mk (below_step (by repeat (first | (with_reducible first | exact HB.out | apply below_alloc | apply pw_below_drewN | apply below_drew1 | refine below_set ?_ GE101.out | refine below_set ?_ GE102.out) | exact HB.out)) hb); clear BK101; clear BK102; clear HB; have BK101 := n0_; have BK102 := n1_; have HB := n2_; clear n0_ n1_ n2_; (try clear hb); (try clear hb2); (try clear hk); (try clear hi)))
     go_ret
     exact ⟨by first | rfl | (simp [errW_none, errW_some] <;> rfl) | (simp [*, errW_none, errW_some] <;> rfl), by repeat (first | (with_reducible first | exact HB.out | apply below_alloc | apply pw_below_drewN | apply below_drew1 | refine below_set ?_ GE101.out | refine below_set ?_ GE102.out) | exact HB.out)⟩
   ·replace c7 := Bool.eq_false_iff.mpr c7
    subst c7
    have H1 : (some false) = some r := by rw [if_neg (show ¬ (false = true) by decide)] at H; exact H
    clear H
    have H := H1
    clear H1
    obtain rfl := Option.some.inj H
    go_enter Try.func20, Try.ntmps20
    go_wp2_with (first | ((with_reducible refine gate_dst (N := 2) rfl ?_); refine box_event ?hg (N := 2) ?hd (cs := #[.slice A0_0 l0_0.length c0_0, .int .i64 a0_1, .slice A0_2 l0_2.length c0_2, .slice A0_3 l0_3.length c0_3, .slice A0_4 l0_4.length c0_4, .int .i64 a0_5, .int .i64 a0_6]) (t := 28) ?hr ?_; (case hd => rfl); (case hg => rfl); (case hr => first | (go_simp; done) | (go_simp; rfl)); intro gb101 hg w52 hbox hb; have n0_ := Aside0.mk (below_step (by repeat (first | (with_reducible first | exact HB.out | apply below_alloc | apply pw_below_drewN | apply below_drew1) | exact HB.out)) hb); have n1_ := Aside0.mk (hbox); have n2_ := Aside0.mk ((by rw [hg]; exact (below_size (by repeat (first | (with_reducible first | exact HB.out | apply below_alloc | apply pw_below_drewN | apply below_drew1) | exact HB.out))) : w.heap.size ≤ gb101)); have n3_ := Aside0.mk ((by rw [hg]; exact (below_size (by repeat (first | (with_reducible first | exact HB.out | apply below_alloc | apply pw_below_drewN | apply below_drew1) | exact HB.out))) : w.heap.size ≤ gb101)); clear HB; have HB := n0_; have BK101 := n1_; have GW101 := n2_; have GE101 := n3_; clear n0_ n1_ n2_ n3_; clear hb hbox hg) | ((with_reducible refine gate_dst (N := 3) rfl ?_); refine box_event ?hg (N := 3) ?hd (cs := #[.slice A1_0 l1_0.length c1_0, .int .i64 a1_1, .slice A1_2 l1_2.length c1_2, .slice A1_3 l1_3.length c1_3, .slice A1_4 l1_4.length c1_4, .int .i64 a1_5, .int .i64 a1_6]) (t := 28) ?hr ?_; (case hd => rfl); (case hg => rfl); (case hr => first | (go_simp; done) | (go_simp; rfl)); intro gb102 hg w53 hbox hb; have n0_ := Aside0.mk (blk_below (g := gb101) (o := .cells #[.slice A0_0 l0_0.length c0_0, .int .i64 a0_1, .slice A0_2 l0_2.length c0_2, .slice A0_3 l0_3.length c0_3, .slice A0_4 l0_4.length c0_4, .int .i64 a0_5, .int .i64 a0_6] 28 (0, 0)) (by (with_reducible repeat (first | refine blk_drewN ?_ _ | refine blk_drew ?_ | refine blk_alloc ?_ _)); exact BK101.out) hb); have n1_ := Aside0.mk (below_step (by repeat (first | (with_reducible first | exact HB.out | apply below_alloc | apply pw_below_drewN | apply below_drew1 | refine below_set ?_ GE101.out) | exact HB.out)) hb); have n2_ := Aside0.mk (hbox); have n3_ := Aside0.mk ((by rw [hg]; exact (below_size (by repeat (first | (with_reducible first | exact HB.out | apply below_alloc | apply pw_below_drewN | apply below_drew1 | refine below_set ?_ GE101.out) | exact HB.out))) : w.heap.size ≤ gb102)); have n4_ := Aside0.mk ((by rw [hg]; exact (below_size (by repeat (first | (with_reducible first | exact HB.out | apply below_alloc | apply pw_below_drewN | apply below_drew1 | refine below_set ?_ GE101.out) | exact HB.out))) : w.heap.size ≤ gb102)); have n5_ := Aside0.mk ((by rw [hg]; exact Nat.ne_of_lt (blk_lt (g := gb101) (o := .cells #[.slice A0_0 l0_0.length c0_0, .int .i64 a0_1, .slice A0_2 l0_2.length c0_2, .slice A0_3 l0_3.length c0_3, .slice A0_4 l0_4.length c0_4, .int .i64 a0_5, .int .i64 a0_6] 28 (0, 0)) (by (with_reducible repeat (first | refine blk_drewN ?_ _ | refine blk_drew ?_ | refine blk_alloc ?_ _)); exact BK101.out)) : gb101 ≠ gb102)); have n6_ := Aside0.mk ((by rw [hg]; exact Nat.ne_of_gt (blk_lt (g := gb101) (o := .cells #[.slice A0_0 l0_0.length c0_0, .int .i64 a0_1, .slice A0_2 l0_2.length c0_2, .slice A0_3 l0_3.length c0_3, .slice A0_4 l0_4.length c0_4, .int .i64 a0_5, .int .i64 a0_6] 28 (0, 0)) (by (with_reducible repeat (first | refine blk_drewN ?_ _ | refine blk_drew ?_ | refine blk_alloc ?_ _)); exact BK101.out)) : gb102 ≠ gb101)); clear BK101; clear HB; have BK101 := n0_; have HB := n1_; have BK102 := n2_; have GW102 := n3_; have GE102 := n4_; have NB101_102 := n5_; have NB102_101 := n6_; clear n0_ n1_ n2_ n3_ n4_ n5_ n6_; clear hb hbox hg; have hnb54 := NB101_102.out; have hnc54 := NB102_101.out; have hcz55_0 : w53.cell? ⟨gb101, 0, none⟩ = some (.slice A0_0 l0_0.length c0_0) := (blk_cell BK101.out 0).trans rfl; have hcz55_1 : w53.cell? ⟨gb101, 1, none⟩ = some (.int .i64 a0_1) := (blk_cell BK101.out 1).trans rfl; have hcz55_2 : w53.cell? ⟨gb101, 2, none⟩ = some (.slice A0_2 l0_2.length c0_2) := (blk_cell BK101.out 2).trans rfl; have hcz55_3 : w53.cell? ⟨gb101, 3, none⟩ = some (.slice A0_3 l0_3.length c0_3) := (blk_cell BK101.out 3).trans rfl; have hcz55_4 : w53.cell? ⟨gb101, 4, none⟩ = some (.slice A0_4 l0_4.length c0_4) := (blk_cell BK101.out 4).trans rfl; have hcz55_5 : w53.cell? ⟨gb101, 5, none⟩ = some (.int .i64 a0_5) := (blk_cell BK101.out 5).trans rfl; have hcz55_6 : w53.cell? ⟨gb101, 6, none⟩ = some (.int .i64 a0_6) := (blk_cell BK101.out 6).trans rfl; have hfz55_0 := blk_frozen BK101.out 0; have hfz55_1 := blk_frozen BK101.out 1; have hfz55_2 := blk_frozen BK101.out 2; have hfz55_3 := blk_frozen BK101.out 3; have hfz55_4 := blk_frozen BK101.out 4; have hfz55_5 := blk_frozen BK101.out 5; have hfz55_6 := blk_frozen BK101.out 6; have hcz56_0 : w53.cell? ⟨gb102, 0, none⟩ = some (.slice A1_0 l1_0.length c1_0) := (blk_cell BK102.out 0).trans rfl; have hcz56_1 : w53.cell? ⟨gb102, 1, none⟩ = some (.int .i64 a1_1) := (blk_cell BK102.out 1).trans rfl; have hcz56_2 : w53.cell? ⟨gb102, 2, none⟩ = some (.slice A1_2 l1_2.length c1_2) := (blk_cell BK102.out 2).trans rfl; have hcz56_3 : w53.cell? ⟨gb102, 3, none⟩ = some (.slice A1_3 l1_3.length c1_3) := (blk_cell BK102.out 3).trans rfl; have hcz56_4 : w53.cell? ⟨gb102, 4, none⟩ = some (.slice A1_4 l1_4.length c1_4) := (blk_cell BK102.out 4).trans rfl; have hcz56_5 : w53.cell? ⟨gb102, 5, none⟩ = some (.int .i64 a1_5) := (blk_cell BK102.out 5).trans rfl; have hcz56_6 : w53.cell? ⟨gb102, 6, none⟩ = some (.int .i64 a1_6) := (blk_cell BK102.out 6).trans rfl; have hfz56_0 := blk_frozen BK102.out 0; have hfz56_1 := blk_frozen BK102.out 1; have hfz56_2 := blk_frozen BK102.out 2; have hfz56_3 := blk_frozen BK102.out 3; have hfz56_4 := blk_frozen BK102.out 4; have hfz56_5 := blk_frozen BK102.out 5; have hfz56_6 := blk_frozen BK102.out 6) | ((with_reducible refine gate_callee (f := 22) rfl ?_); refine goesL_ (some 9) rfl rfl Try.func22 (by kernel_rfl) rfl #[.slice A0_0 l0_0.length c0_0, .slice A1_0 l1_0.length c1_0] rfl (by (try simp only [List.map_toArray, List.map_cons, List.map_nil]); first | done | rfl | (simp only [List.length_drop, List.length_take]; rfl)) ?_; (with_reducible refine (laws_eqIntS.calls k _ _ l0_0 _ _ l1_0 true _ ?side1 ?side2 ?side3 ?side4 A3.out).mono ?_); (case side1 => repeat (first | exact (Kd.C_below HR0_0.out HB.out) | (with_reducible refine Kd.C_alloc ?_ _) | (with_reducible refine Kd.C_drewN ?_ _) | (with_reducible refine Kd.C_drew ?_))); (case side2 => exact HC0_0.out); (case side3 => repeat (first | exact (Kd.C_below HR1_0.out HB.out) | (with_reducible refine Kd.C_alloc ?_ _) | (with_reducible refine Kd.C_drewN ?_ _) | (with_reducible refine Kd.C_drew ?_))); (case side4 => exact HC1_0.out); rintro e w' ⟨rfl, ⟨nd, rfl⟩⟩; refine ⟨_, rfl, ?_⟩) | ((with_reducible refine gate_callee (f := 22) rfl ?_); refine goesL_ (some 20) rfl rfl Try.func22 (by kernel_rfl) rfl #[.slice A0_2 l0_2.length c0_2, .slice A1_2 l1_2.length c1_2] rfl (by (try simp only [List.map_toArray, List.map_cons, List.map_nil]); first | done | rfl | (simp only [List.length_drop, List.length_take]; rfl)) ?_; (with_reducible refine (laws_eqIntS.calls k _ _ l0_2 _ _ l1_2 false _ ?side1 ?side2 ?side3 ?side4 A6.out).mono ?_); (case side1 => repeat (first | exact (Kd.C_below HR0_2.out (by repeat (first | (with_reducible first | exact HB.out | apply below_alloc | apply pw_below_drewN | apply below_drew1 | refine below_set ?_ GE101.out | refine below_set ?_ GE102.out) | exact HB.out))) | (with_reducible refine Kd.C_alloc ?_ _) | (with_reducible refine Kd.C_drewN ?_ _) | (with_reducible refine Kd.C_drew ?_))); (case side2 => exact HC0_2.out); (case side3 => repeat (first | exact (Kd.C_below HR1_2.out (by repeat (first | (with_reducible first | exact HB.out | apply below_alloc | apply pw_below_drewN | apply below_drew1 | refine below_set ?_ GE101.out | refine below_set ?_ GE102.out) | exact HB.out))) | (with_reducible refine Kd.C_alloc ?_ _) | (with_reducible refine Kd.C_drewN ?_ _) | (with_reducible refine Kd.C_drew ?_))); (case side4 => exact HC1_2.out); rintro e w' ⟨rfl, ⟨nd, rfl⟩⟩; refine ⟨_, rfl, ?_⟩))
    go_ret
    exact ⟨by first | rfl | (simp [errW_none, errW_some] <;> rfl) | (simp [*, errW_none, errW_some] <;> rfl), by repeat (first | (with_reducible first | exact HB.out | apply below_alloc | apply pw_below_drewN | apply below_drew1 | refine below_set ?_ GE101.out | refine below_set ?_ GE102.out) | exact HB.out)⟩
  ·rw [if_neg c5] at H
   have c5b0 : (a0_1 == a1_1) = false := beq_eq_false_iff_ne.mpr c5
   have c5b1 : (a0_1 != a1_1) = true := bne_iff_ne.mpr c5
   obtain rfl := Option.some.inj H
   go_enter Try.func20, Try.ntmps20
   go_wp2_with (first | ((with_reducible refine gate_dst (N := 2) rfl ?_); refine box_event ?hg (N := 2) ?hd (cs := #[.slice A0_0 l0_0.length c0_0, .int .i64 a0_1, .slice A0_2 l0_2.length c0_2, .slice A0_3 l0_3.length c0_3, .slice A0_4 l0_4.length c0_4, .int .i64 a0_5, .int .i64 a0_6]) (t := 28) ?hr ?_; (case hd => rfl); (case hg => rfl); (case hr => first | (go_simp; done) | (go_simp; rfl)); intro gb101 hg w57 hbox hb; have n0_ := Aside0.mk (below_step (by repeat (first | (with_reducible first | exact HB.out | apply below_alloc | apply pw_below_drewN | apply below_drew1) | exact HB.out)) hb); have n1_ := Aside0.mk (hbox); have n2_ := Aside0.mk ((by rw [hg]; exact (below_size (by repeat (first | (with_reducible first | exact HB.out | apply below_alloc | apply pw_below_drewN | apply below_drew1) | exact HB.out))) : w.heap.size ≤ gb101)); have n3_ := Aside0.mk ((by rw [hg]; exact (below_size (by repeat (first | (with_reducible first | exact HB.out | apply below_alloc | apply pw_below_drewN | apply below_drew1) | exact HB.out))) : w.heap.size ≤ gb101)); clear HB; have HB := n0_; have BK101 := n1_; have GW101 := n2_; have GE101 := n3_; clear n0_ n1_ n2_ n3_; clear hb hbox hg) | ((with_reducible refine gate_dst (N := 3) rfl ?_); refine box_event ?hg (N := 3) ?hd (cs := #[.slice A1_0 l1_0.length c1_0, .int .i64 a1_1, .slice A1_2 l1_2.length c1_2, .slice A1_3 l1_3.length c1_3, .slice A1_4 l1_4.length c1_4, .int .i64 a1_5, .int .i64 a1_6]) (t := 28) ?hr ?_; (case hd => rfl); (case hg => rfl); (case hr => first | (go_simp; done) | (go_simp; rfl)); intro gb102 hg w58 hbox hb; have n0_ := Aside0.mk (blk_below (g := gb101) (o := .cells #[.slice A0_0 l0_0.length c0_0, .int .i64 a0_1, .slice A0_2 l0_2.length c0_2, .slice A0_3 l0_3.length c0_3, .slice A0_4 l0_4.length c0_4, .int .i64 a0_5, .int .i64 a0_6] 28 (0, 0)) (by (with_reducible repeat (first | refine blk_drewN ?_ _ | refine blk_drew ?_ | refine blk_alloc ?_ _)); exact BK101.out) hb); have n1_ := Aside0.mk (below_step (by repeat (first | (with_reducible first | exact HB.out | apply below_alloc | apply pw_below_drewN | apply below_drew1 | refine below_set ?_ GE101.out) | exact HB.out)) hb); have n2_ := Aside0.mk (hbox); have n3_ := Aside0.mk ((by rw [hg]; exact (below_size (by repeat (first | (with_reducible first | exact HB.out | apply below_alloc | apply pw_below_drewN | apply below_drew1 | refine below_set ?_ GE101.out) | exact HB.out))) : w.heap.size ≤ gb102)); have n4_ := Aside0.mk ((by rw [hg]; exact (below_size (by repeat (first | (with_reducible first | exact HB.out | apply below_alloc | apply pw_below_drewN | apply below_drew1 | refine below_set ?_ GE101.out) | exact HB.out))) : w.heap.size ≤ gb102)); have n5_ := Aside0.mk ((by rw [hg]; exact Nat.ne_of_lt (blk_lt (g := gb101) (o := .cells #[.slice A0_0 l0_0.length c0_0, .int .i64 a0_1, .slice A0_2 l0_2.length c0_2, .slice A0_3 l0_3.length c0_3, .slice A0_4 l0_4.length c0_4, .int .i64 a0_5, .int .i64 a0_6] 28 (0, 0)) (by (with_reducible repeat (first | refine blk_drewN ?_ _ | refine blk_drew ?_ | refine blk_alloc ?_ _)); exact BK101.out)) : gb101 ≠ gb102)); have n6_ := Aside0.mk ((by rw [hg]; exact Nat.ne_of_gt (blk_lt (g := gb101) (o := .cells #[.slice A0_0 l0_0.length c0_0, .int .i64 a0_1, .slice A0_2 l0_2.length c0_2, .slice A0_3 l0_3.length c0_3, .slice A0_4 l0_4.length c0_4, .int .i64 a0_5, .int .i64 a0_6] 28 (0, 0)) (by (with_reducible repeat (first | refine blk_drewN ?_ _ | refine blk_drew ?_ | refine blk_alloc ?_ _)); exact BK101.out)) : gb102 ≠ gb101)); clear BK101; clear HB; have BK101 := n0_; have HB := n1_; have BK102 := n2_; have GW102 := n3_; have GE102 := n4_; have NB101_102 := n5_; have NB102_101 := n6_; clear n0_ n1_ n2_ n3_ n4_ n5_ n6_; clear hb hbox hg; have hnb59 := NB101_102.out; have hnc59 := NB102_101.out; have hcz60_0 : w58.cell? ⟨gb101, 0, none⟩ = some (.slice A0_0 l0_0.length c0_0) := (blk_cell BK101.out 0).trans rfl; have hcz60_1 : w58.cell? ⟨gb101, 1, none⟩ = some (.int .i64 a0_1) := (blk_cell BK101.out 1).trans rfl; have hcz60_2 : w58.cell? ⟨gb101, 2, none⟩ = some (.slice A0_2 l0_2.length c0_2) := (blk_cell BK101.out 2).trans rfl; have hcz60_3 : w58.cell? ⟨gb101, 3, none⟩ = some (.slice A0_3 l0_3.length c0_3) := (blk_cell BK101.out 3).trans rfl; have hcz60_4 : w58.cell? ⟨gb101, 4, none⟩ = some (.slice A0_4 l0_4.length c0_4) := (blk_cell BK101.out 4).trans rfl; have hcz60_5 : w58.cell? ⟨gb101, 5, none⟩ = some (.int .i64 a0_5) := (blk_cell BK101.out 5).trans rfl; have hcz60_6 : w58.cell? ⟨gb101, 6, none⟩ = some (.int .i64 a0_6) := (blk_cell BK101.out 6).trans rfl; have hfz60_0 := blk_frozen BK101.out 0; have hfz60_1 := blk_frozen BK101.out 1; have hfz60_2 := blk_frozen BK101.out 2; have hfz60_3 := blk_frozen BK101.out 3; have hfz60_4 := blk_frozen BK101.out 4; have hfz60_5 := blk_frozen BK101.out 5; have hfz60_6 := blk_frozen BK101.out 6; have hcz61_0 : w58.cell? ⟨gb102, 0, none⟩ = some (.slice A1_0 l1_0.length c1_0) := (blk_cell BK102.out 0).trans rfl; have hcz61_1 : w58.cell? ⟨gb102, 1, none⟩ = some (.int .i64 a1_1) := (blk_cell BK102.out 1).trans rfl; have hcz61_2 : w58.cell? ⟨gb102, 2, none⟩ = some (.slice A1_2 l1_2.length c1_2) := (blk_cell BK102.out 2).trans rfl; have hcz61_3 : w58.cell? ⟨gb102, 3, none⟩ = some (.slice A1_3 l1_3.length c1_3) := (blk_cell BK102.out 3).trans rfl; have hcz61_4 : w58.cell? ⟨gb102, 4, none⟩ = some (.slice A1_4 l1_4.length c1_4) := (blk_cell BK102.out 4).trans rfl; have hcz61_5 : w58.cell? ⟨gb102, 5, none⟩ = some (.int .i64 a1_5) := (blk_cell BK102.out 5).trans rfl; have hcz61_6 : w58.cell? ⟨gb102, 6, none⟩ = some (.int .i64 a1_6) := (blk_cell BK102.out 6).trans rfl; have hfz61_0 := blk_frozen BK102.out 0; have hfz61_1 := blk_frozen BK102.out 1; have hfz61_2 := blk_frozen BK102.out 2; have hfz61_3 := blk_frozen BK102.out 3; have hfz61_4 := blk_frozen BK102.out 4; have hfz61_5 := blk_frozen BK102.out 5; have hfz61_6 := blk_frozen BK102.out 6) | ((with_reducible refine gate_callee (f := 22) rfl ?_); refine goesL_ (some 9) rfl rfl Try.func22 (by kernel_rfl) rfl #[.slice A0_0 l0_0.length c0_0, .slice A1_0 l1_0.length c1_0] rfl (by (try simp only [List.map_toArray, List.map_cons, List.map_nil]); first | done | rfl | (simp only [List.length_drop, List.length_take]; rfl)) ?_; (with_reducible refine (laws_eqIntS.calls k _ _ l0_0 _ _ l1_0 true _ ?side1 ?side2 ?side3 ?side4 A3.out).mono ?_); (case side1 => repeat (first | exact (Kd.C_below HR0_0.out HB.out) | (with_reducible refine Kd.C_alloc ?_ _) | (with_reducible refine Kd.C_drewN ?_ _) | (with_reducible refine Kd.C_drew ?_))); (case side2 => exact HC0_0.out); (case side3 => repeat (first | exact (Kd.C_below HR1_0.out HB.out) | (with_reducible refine Kd.C_alloc ?_ _) | (with_reducible refine Kd.C_drewN ?_ _) | (with_reducible refine Kd.C_drew ?_))); (case side4 => exact HC1_0.out); rintro e w' ⟨rfl, ⟨nd, rfl⟩⟩; refine ⟨_, rfl, ?_⟩))
   go_ret
   exact ⟨by first | rfl | (simp [errW_none, errW_some] <;> rfl) | (simp [*, errW_none, errW_some] <;> rfl), by repeat (first | (with_reducible first | exact HB.out | apply below_alloc | apply pw_below_drewN | apply below_drew1 | refine below_set ?_ GE101.out | refine below_set ?_ GE102.out) | exact HB.out)⟩
 ·replace c4 := Bool.eq_false_iff.mpr c4
  subst c4
  have H1 : (some false) = some r := by rw [if_neg (show ¬ (false = true) by decide)] at H; exact H
  clear H
  have H := H1
  clear H1
  obtain rfl := Option.some.inj H
  go_enter Try.func20, Try.ntmps20
  go_wp2_with (first | ((with_reducible refine gate_dst (N := 2) rfl ?_); refine box_event ?hg (N := 2) ?hd (cs := #[.slice A0_0 l0_0.length c0_0, .int .i64 a0_1, .slice A0_2 l0_2.length c0_2, .slice A0_3 l0_3.length c0_3, .slice A0_4 l0_4.length c0_4, .int .i64 a0_5, .int .i64 a0_6]) (t := 28) ?hr ?_; (case hd => rfl); (case hg => rfl); (case hr => first | (go_simp; done) | (go_simp; rfl)); intro gb101 hg w62 hbox hb; have n0_ := Aside0.mk (below_step (by repeat (first | (with_reducible first | exact HB.out | apply below_alloc | apply pw_below_drewN | apply below_drew1) | exact HB.out)) hb); have n1_ := Aside0.mk (hbox); have n2_ := Aside0.mk ((by rw [hg]; exact (below_size (by repeat (first | (with_reducible first | exact HB.out | apply below_alloc | apply pw_below_drewN | apply below_drew1) | exact HB.out))) : w.heap.size ≤ gb101)); have n3_ := Aside0.mk ((by rw [hg]; exact (below_size (by repeat (first | (with_reducible first | exact HB.out | apply below_alloc | apply pw_below_drewN | apply below_drew1) | exact HB.out))) : w.heap.size ≤ gb101)); clear HB; have HB := n0_; have BK101 := n1_; have GW101 := n2_; have GE101 := n3_; clear n0_ n1_ n2_ n3_; clear hb hbox hg) | ((with_reducible refine gate_dst (N := 3) rfl ?_); refine box_event ?hg (N := 3) ?hd (cs := #[.slice A1_0 l1_0.length c1_0, .int .i64 a1_1, .slice A1_2 l1_2.length c1_2, .slice A1_3 l1_3.length c1_3, .slice A1_4 l1_4.length c1_4, .int .i64 a1_5, .int .i64 a1_6]) (t := 28) ?hr ?_; (case hd => rfl); (case hg => rfl); (case hr => first | (go_simp; done) | (go_simp; rfl)); intro gb102 hg w63 hbox hb; have n0_ := Aside0.mk (blk_below (g := gb101) (o := .cells #[.slice A0_0 l0_0.length c0_0, .int .i64 a0_1, .slice A0_2 l0_2.length c0_2, .slice A0_3 l0_3.length c0_3, .slice A0_4 l0_4.length c0_4, .int .i64 a0_5, .int .i64 a0_6] 28 (0, 0)) (by (with_reducible repeat (first | refine blk_drewN ?_ _ | refine blk_drew ?_ | refine blk_alloc ?_ _)); exact BK101.out) hb); have n1_ := Aside0.mk (below_step (by repeat (first | (with_reducible first | exact HB.out | apply below_alloc | apply pw_below_drewN | apply below_drew1 | refine below_set ?_ GE101.out) | exact HB.out)) hb); have n2_ := Aside0.mk (hbox); have n3_ := Aside0.mk ((by rw [hg]; exact (below_size (by repeat (first | (with_reducible first | exact HB.out | apply below_alloc | apply pw_below_drewN | apply below_drew1 | refine below_set ?_ GE101.out) | exact HB.out))) : w.heap.size ≤ gb102)); have n4_ := Aside0.mk ((by rw [hg]; exact (below_size (by repeat (first | (with_reducible first | exact HB.out | apply below_alloc | apply pw_below_drewN | apply below_drew1 | refine below_set ?_ GE101.out) | exact HB.out))) : w.heap.size ≤ gb102)); have n5_ := Aside0.mk ((by rw [hg]; exact Nat.ne_of_lt (blk_lt (g := gb101) (o := .cells #[.slice A0_0 l0_0.length c0_0, .int .i64 a0_1, .slice A0_2 l0_2.length c0_2, .slice A0_3 l0_3.length c0_3, .slice A0_4 l0_4.length c0_4, .int .i64 a0_5, .int .i64 a0_6] 28 (0, 0)) (by (with_reducible repeat (first | refine blk_drewN ?_ _ | refine blk_drew ?_ | refine blk_alloc ?_ _)); exact BK101.out)) : gb101 ≠ gb102)); have n6_ := Aside0.mk ((by rw [hg]; exact Nat.ne_of_gt (blk_lt (g := gb101) (o := .cells #[.slice A0_0 l0_0.length c0_0, .int .i64 a0_1, .slice A0_2 l0_2.length c0_2, .slice A0_3 l0_3.length c0_3, .slice A0_4 l0_4.length c0_4, .int .i64 a0_5, .int .i64 a0_6] 28 (0, 0)) (by (with_reducible repeat (first | refine blk_drewN ?_ _ | refine blk_drew ?_ | refine blk_alloc ?_ _)); exact BK101.out)) : gb102 ≠ gb101)); clear BK101; clear HB; have BK101 := n0_; have HB := n1_; have BK102 := n2_; have GW102 := n3_; have GE102 := n4_; have NB101_102 := n5_; have NB102_101 := n6_; clear n0_ n1_ n2_ n3_ n4_ n5_ n6_; clear hb hbox hg; have hnb64 := NB101_102.out; have hnc64 := NB102_101.out; have hcz65_0 : w63.cell? ⟨gb101, 0, none⟩ = some (.slice A0_0 l0_0.length c0_0) := (blk_cell BK101.out 0).trans rfl; have hcz65_1 : w63.cell? ⟨gb101, 1, none⟩ = some (.int .i64 a0_1) := (blk_cell BK101.out 1).trans rfl; have hcz65_2 : w63.cell? ⟨gb101, 2, none⟩ = some (.slice A0_2 l0_2.length c0_2) := (blk_cell BK101.out 2).trans rfl; have hcz65_3 : w63.cell? ⟨gb101, 3, none⟩ = some (.slice A0_3 l0_3.length c0_3) := (blk_cell BK101.out 3).trans rfl; have hcz65_4 : w63.cell? ⟨gb101, 4, none⟩ = some (.slice A0_4 l0_4.length c0_4) := (blk_cell BK101.out 4).trans rfl; have hcz65_5 : w63.cell? ⟨gb101, 5, none⟩ = some (.int .i64 a0_5) := (blk_cell BK101.out 5).trans rfl; have hcz65_6 : w63.cell? ⟨gb101, 6, none⟩ = some (.int .i64 a0_6) := (blk_cell BK101.out 6).trans rfl; have hfz65_0 := blk_frozen BK101.out 0; have hfz65_1 := blk_frozen BK101.out 1; have hfz65_2 := blk_frozen BK101.out 2; have hfz65_3 := blk_frozen BK101.out 3; have hfz65_4 := blk_frozen BK101.out 4; have hfz65_5 := blk_frozen BK101.out 5; have hfz65_6 := blk_frozen BK101.out 6; have hcz66_0 : w63.cell? ⟨gb102, 0, none⟩ = some (.slice A1_0 l1_0.length c1_0) := (blk_cell BK102.out 0).trans rfl; have hcz66_1 : w63.cell? ⟨gb102, 1, none⟩ = some (.int .i64 a1_1) := (blk_cell BK102.out 1).trans rfl; have hcz66_2 : w63.cell? ⟨gb102, 2, none⟩ = some (.slice A1_2 l1_2.length c1_2) := (blk_cell BK102.out 2).trans rfl; have hcz66_3 : w63.cell? ⟨gb102, 3, none⟩ = some (.slice A1_3 l1_3.length c1_3) := (blk_cell BK102.out 3).trans rfl; have hcz66_4 : w63.cell? ⟨gb102, 4, none⟩ = some (.slice A1_4 l1_4.length c1_4) := (blk_cell BK102.out 4).trans rfl; have hcz66_5 : w63.cell? ⟨gb102, 5, none⟩ = some (.int .i64 a1_5) := (blk_cell BK102.out 5).trans rfl; have hcz66_6 : w63.cell? ⟨gb102, 6, none⟩ = some (.int .i64 a1_6) := (blk_cell BK102.out 6).trans rfl; have hfz66_0 := blk_frozen BK102.out 0; have hfz66_1 := blk_frozen BK102.out 1; have hfz66_2 := blk_frozen BK102.out 2; have hfz66_3 := blk_frozen BK102.out 3; have hfz66_4 := blk_frozen BK102.out 4; have hfz66_5 := blk_frozen BK102.out 5; have hfz66_6 := blk_frozen BK102.out 6) | ((with_reducible refine gate_callee (f := 22) rfl ?_); refine goesL_ (some 9) rfl rfl Try.func22 (by kernel_rfl) rfl #[.slice A0_0 l0_0.length c0_0, .slice A1_0 l1_0.length c1_0] rfl (by (try simp only [List.map_toArray, List.map_cons, List.map_nil]); first | done | rfl | (simp only [List.length_drop, List.length_take]; rfl)) ?_; (with_reducible refine (laws_eqIntS.calls k _ _ l0_0 _ _ l1_0 false _ ?side1 ?side2 ?side3 ?side4 A3.out).mono ?_); (case side1 => repeat (first | exact (Kd.C_below HR0_0.out HB.out) | (with_reducible refine Kd.C_alloc ?_ _) | (with_reducible refine Kd.C_drewN ?_ _) | (with_reducible refine Kd.C_drew ?_))); (case side2 => exact HC0_0.out); (case side3 => repeat (first | exact (Kd.C_below HR1_0.out HB.out) | (with_reducible refine Kd.C_alloc ?_ _) | (with_reducible refine Kd.C_drewN ?_ _) | (with_reducible refine Kd.C_drew ?_))); (case side4 => exact HC1_0.out); rintro e w' ⟨rfl, ⟨nd, rfl⟩⟩; refine ⟨_, rfl, ?_⟩))
  go_ret
  exact ⟨by first | rfl | (simp [errW_none, errW_some] <;> rfl) | (simp [*, errW_none, errW_some] <;> rfl), by repeat (first | (with_reducible first | exact HB.out | apply below_alloc | apply pw_below_drewN | apply below_drew1 | refine below_set ?_ GE101.out | refine below_set ?_ GE102.out) | exact HB.out)⟩

end Go.Proofs.Ytjndadjhhknggaa.Q
end
section
/- Contracts of a function, printed for this claim by a program of ours over the kit's print. -/
namespace Go.Proofs.Ytjndadjhhknggaa.Q
open Go.RowKit Go.Proofs.YtjndadjhhknggaaW.PrintWords Go.Proofs.YtjndadjhhknggaaW.PrintLast Go.Proofs.YtjndadjhhknggaaW.PrintMore
attribute [local go_sem] max2_int min2_int max_two min_two max_three min_three max_four min_four   -- for this text's walks alone
set_option linter.unusedVariables false
set_option linter.unusedSimpArgs false

/-! ### laws_heldPreparedS: function 54 -/
def laws_heldPreparedS.l0 : Nat → List (S68) → Int → Int → Option (Int)
 | 0, _, _, _ => none
 | k + 1, x0, x1, x5 => if x5 < (x0.length : Int) then (if 0 ≤ x5 then (if ((rd_T68 x0 x5).f0) = x1 then (if ((rd_T68 x0 x5).f1) = (wrap64 (x1 + 1)) then ((laws_heldIntS.f k ((rd_T68 x0 x5).f2) (wrap64 ((wrap64 (x1 + 1)) + 1))).bind fun t104 => (if t104 < 0 then (some (-1)) else (laws_heldPreparedS.l0 k x0 t104 (wrap64 (x5 + 1))))) else (some (-1))) else (some (-1))) else (none)) else (some x1)
def laws_heldPreparedS.f (k : Nat) (l0 : List (S68)) (a1 : Int) : Option (Int) := laws_heldPreparedS.l0 k l0 a1 0
set_option maxHeartbeats 8000000 in
set_option maxRecDepth 100000 in
theorem laws_heldPreparedS.calls (k : Nat) (A0 : Option Addr) (c0 : Nat) (l0 : List (S68)) (a1 : Int) (r : Int) (w : World) (hr0 : Kd.C k68 w A0 l0.length l0) (hc0 : l0.length ≤ c0) (h : laws_heldPreparedS.f k l0 a1 = some r) :
  Calls Try.prog 54 #[.slice A0 l0.length c0, .int .i64 a1] w fun e w' => e = .returned (.int .i64 r) ∧ Drawn0 w w' := by
 have HR0 := Aside0.mk hr0
 have HC0 := Aside0.mk hc0
 clear hr0 hc0
 have H : (laws_heldPreparedS.l0 k l0 a1 0) = some r := h
 clear h
 have H' := Aside0.mk H
 clear H
 go_enter Try.func54, Try.ntmps54
 go_wp2
 go_loopg [1, 5] k (fun kq v1 v5 w' => ∃ (x1_1 : Int) (x5_1 : Int), v1 = .int .i64 x1_1 ∧ v5 = .int .i64 x5_1 ∧ Aside0 (laws_heldPreparedS.l0 kq l0 x1_1 x5_1 = some r) ∧ Aside0 (kq ≤ k) ∧ Drawn0 w w')
 case atStart => exact ⟨(a1), (0), (by first | rfl | (simp; done) | (simp [*]; done)), (by first | rfl | (simp; done) | (simp [*]; done)), H', ⟨Nat.le_refl _⟩, by repeat (first | exact Drawn0.refl _ | apply Drawn0.step)⟩
 case round =>
  clear H'
  try clear p2
  obtain ⟨x1_1, x5_1, rfl, rfl, HA, HK1, ⟨m1, rfl⟩⟩ := hrel
  cases gk with
  | zero => exact absurd HA.out (by simp [laws_heldPreparedS.l0])
  | succ k1 =>
   have H := HA.out
   clear HA
   simp only [laws_heldPreparedS.l0] at H
   by_cases c3 : x5_1 < (l0.length : Int)
   ·rw [if_pos c3] at H
    have c3b0 : decide (x5_1 < (l0.length : Int)) = true := decide_eq_true c3
    clear c3
    by_cases c4 : 0 ≤ x5_1
    ·rw [if_pos c4] at H
     have c4b0 : decide (0 ≤ x5_1) = true := decide_eq_true c4
     clear c4
     by_cases c5 : ((rd_T68 l0 x5_1).f0) = x1_1
     ·rw [if_pos c5] at H
      have c5b0 : (((rd_T68 l0 x5_1).f0) == x1_1) = true := beq_iff_eq.mpr c5
      have c5b1 : (((rd_T68 l0 x5_1).f0) != x1_1) = false := bne_eq_false_iff_eq.mpr c5
      clear c5
      by_cases c6 : ((rd_T68 l0 x5_1).f1) = (wrap64 (x1_1 + 1))
      ·rw [if_pos c6] at H
       have c6b0 : (((rd_T68 l0 x5_1).f1) == (wrap64 (x1_1 + 1))) = true := beq_iff_eq.mpr c6
       have c6b1 : (((rd_T68 l0 x5_1).f1) != (wrap64 (x1_1 + 1))) = false := bne_eq_false_iff_eq.mpr c6
       clear c6
       replace H := Option.bind_eq_some_iff.mp H
       obtain ⟨t104, A70, H⟩ := H
       replace H : (if t104 < 0 then (some (-1)) else (laws_heldPreparedS.l0 k1 l0 t104 (wrap64 (x5_1 + 1)))) = some r := H
       have A7 := Aside0.mk A70
       clear A70
       by_cases c8 : t104 < 0
       ·rw [if_pos c8] at H
        have c8b0 : decide (t104 < 0) = true := decide_eq_true c8
        clear c8
        obtain rfl := Option.some.inj H
        have p101 : 0 ≤ (x5_1 : Int) := of_decide_eq_true (by first | (with_reducible assumption) | assumption)
        have q101 : x5_1 < (l0.length : Int) := of_decide_eq_true (by first | (with_reducible assumption) | assumption)
        obtain ⟨ad101, A101_2, c101_2, e101, hx101_0, hx101_1, hx101_2, hl101_2, hi101_2⟩ := at_T68 HR0.out x5_1 p101 q101
        cases e101
        have HR101_2 := Aside0.mk hi101_2
        have HC101_2 := Aside0.mk hl101_2
        clear hi101_2 hl101_2
        replace p101 := eq_true p101
        replace q101 := eq_true q101
        have p102 : 0 ≤ (x5_1 : Int) := of_decide_eq_true (by first | (with_reducible assumption) | assumption)
        have q102 : x5_1 < (l0.length : Int) := of_decide_eq_true (by first | (with_reducible assumption) | assumption)
        obtain ⟨ad102, A102_2, c102_2, e102, hx102_0, hx102_1, hx102_2, hl102_2, hi102_2⟩ := at_T68 HR0.out x5_1 p102 q102
        obtain rfl : ad101 = ad102 := (by injection e102)
        have HR102_2 := Aside0.mk hi102_2
        have HC102_2 := Aside0.mk hl102_2
        clear hi102_2 hl102_2
        replace p102 := eq_true p102
        replace q102 := eq_true q102
        have ea_ := Option.some.inj (hx101_2.symm.trans hx102_2)
        injection ea_ with ea_ en_ ec_
        subst ea_
        subst ec_
        clear en_
        have p103 : 0 ≤ (x5_1 : Int) := of_decide_eq_true (by first | (with_reducible assumption) | assumption)
        have q103 : x5_1 < (l0.length : Int) := of_decide_eq_true (by first | (with_reducible assumption) | assumption)
        obtain ⟨ad103, A103_2, c103_2, e103, hx103_0, hx103_1, hx103_2, hl103_2, hi103_2⟩ := at_T68 HR0.out x5_1 p103 q103
        obtain rfl : ad101 = ad103 := (by injection e103)
        have HR103_2 := Aside0.mk hi103_2
        have HC103_2 := Aside0.mk hl103_2
        clear hi103_2 hl103_2
        replace p103 := eq_true p103
        replace q103 := eq_true q103
        have ea_ := Option.some.inj (hx101_2.symm.trans hx103_2)
        injection ea_ with ea_ en_ ec_
        subst ea_
        subst ec_
        clear en_
        go_wp2_with (first | ((with_reducible refine gate_callee (f := 53) rfl ?_); refine goesL_ (some 36) rfl rfl Try.func53 (by kernel_rfl) rfl #[.slice A101_2 ((rd_T68 l0 x5_1).f2).length c101_2, .int .i64 (wrap64 ((wrap64 (x1_1 + 1)) + 1))] rfl (by (try simp only [List.map_toArray, List.map_cons, List.map_nil]); first | done | rfl | (simp only [List.length_drop, List.length_take]; rfl)) ?_; (with_reducible refine (laws_heldIntS.calls k1 _ _ ((rd_T68 l0 x5_1).f2) (wrap64 ((wrap64 (x1_1 + 1)) + 1)) t104 _ ?side1 ?side2 A7.out).mono ?_); (case side1 => repeat (first | exact HR103_2.out | (with_reducible refine Kd.C_alloc ?_ _) | (with_reducible refine Kd.C_drewN ?_ _) | (with_reducible refine Kd.C_drew ?_))); (case side2 => exact HC103_2.out); rintro e w' ⟨rfl, ⟨nd, rfl⟩⟩; refine ⟨_, rfl, ?_⟩))
        go_ret
        exact ⟨by first | rfl | (simp; done) | (simp [*]; done), by repeat (first | exact Drawn0.refl _ | apply Drawn0.step)⟩
       ·rw [if_neg c8] at H
        have c8b0 : decide (t104 < 0) = false := decide_eq_false c8
        clear c8
        have H' := Aside0.mk H
        clear H
        have p101 : 0 ≤ (x5_1 : Int) := of_decide_eq_true (by first | (with_reducible assumption) | assumption)
        have q101 : x5_1 < (l0.length : Int) := of_decide_eq_true (by first | (with_reducible assumption) | assumption)
        obtain ⟨ad101, A101_2, c101_2, e101, hx101_0, hx101_1, hx101_2, hl101_2, hi101_2⟩ := at_T68 HR0.out x5_1 p101 q101
        cases e101
        have HR101_2 := Aside0.mk hi101_2
        have HC101_2 := Aside0.mk hl101_2
        clear hi101_2 hl101_2
        replace p101 := eq_true p101
        replace q101 := eq_true q101
        have p102 : 0 ≤ (x5_1 : Int) := of_decide_eq_true (by first | (with_reducible assumption) | assumption)
        have q102 : x5_1 < (l0.length : Int) := of_decide_eq_true (by first | (with_reducible assumption) | assumption)
        obtain ⟨ad102, A102_2, c102_2, e102, hx102_0, hx102_1, hx102_2, hl102_2, hi102_2⟩ := at_T68 HR0.out x5_1 p102 q102
        obtain rfl : ad101 = ad102 := (by injection e102)
        have HR102_2 := Aside0.mk hi102_2
        have HC102_2 := Aside0.mk hl102_2
        clear hi102_2 hl102_2
        replace p102 := eq_true p102
        replace q102 := eq_true q102
        have ea_ := Option.some.inj (hx101_2.symm.trans hx102_2)
        injection ea_ with ea_ en_ ec_
        subst ea_
        subst ec_
        clear en_
        have p103 : 0 ≤ (x5_1 : Int) := of_decide_eq_true (by first | (with_reducible assumption) | assumption)
        have q103 : x5_1 < (l0.length : Int) := of_decide_eq_true (by first | (with_reducible assumption) | assumption)
        obtain ⟨ad103, A103_2, c103_2, e103, hx103_0, hx103_1, hx103_2, hl103_2, hi103_2⟩ := at_T68 HR0.out x5_1 p103 q103
        obtain rfl : ad101 = ad103 := (by injection e103)
        have HR103_2 := Aside0.mk hi103_2
        have HC103_2 := Aside0.mk hl103_2
        clear hi103_2 hl103_2
        replace p103 := eq_true p103
        replace q103 := eq_true q103
        have ea_ := Option.some.inj (hx101_2.symm.trans hx103_2)
        injection ea_ with ea_ en_ ec_
        subst ea_
        subst ec_
        clear en_
        go_wp2_with (first | ((with_reducible refine gate_callee (f := 53) rfl ?_); refine goesL_ (some 36) rfl rfl Try.func53 (by kernel_rfl) rfl #[.slice A101_2 ((rd_T68 l0 x5_1).f2).length c101_2, .int .i64 (wrap64 ((wrap64 (x1_1 + 1)) + 1))] rfl (by (try simp only [List.map_toArray, List.map_cons, List.map_nil]); first | done | rfl | (simp only [List.length_drop, List.length_take]; rfl)) ?_; (with_reducible refine (laws_heldIntS.calls k1 _ _ ((rd_T68 l0 x5_1).f2) (wrap64 ((wrap64 (x1_1 + 1)) + 1)) t104 _ ?side1 ?side2 A7.out).mono ?_); (case side1 => repeat (first | exact HR103_2.out | (with_reducible refine Kd.C_alloc ?_ _) | (with_reducible refine Kd.C_drewN ?_ _) | (with_reducible refine Kd.C_drew ?_))); (case side2 => exact HC103_2.out); rintro e w' ⟨rfl, ⟨nd, rfl⟩⟩; refine ⟨_, rfl, ?_⟩))
        go_roundg k1
        case measure => have := HK1.out; omega
        case rel => exact ⟨(t104), (wrap64 (x5_1 + 1)), (by first | rfl | (simp; done) | (simp [*]; done)), (by first | rfl | (simp; done) | (simp [*]; done)), H', ⟨by have := HK1.out; omega⟩, by repeat (first | exact Drawn0.refl _ | apply Drawn0.step)⟩
      ·rw [if_neg c6] at H
       have c6b0 : (((rd_T68 l0 x5_1).f1) == (wrap64 (x1_1 + 1))) = false := beq_eq_false_iff_ne.mpr c6
       have c6b1 : (((rd_T68 l0 x5_1).f1) != (wrap64 (x1_1 + 1))) = true := bne_iff_ne.mpr c6
       obtain rfl := Option.some.inj H
       have p101 : 0 ≤ (x5_1 : Int) := of_decide_eq_true (by first | (with_reducible assumption) | assumption)
       have q101 : x5_1 < (l0.length : Int) := of_decide_eq_true (by first | (with_reducible assumption) | assumption)
       obtain ⟨ad101, A101_2, c101_2, e101, hx101_0, hx101_1, hx101_2, hl101_2, hi101_2⟩ := at_T68 HR0.out x5_1 p101 q101
       cases e101
       have HR101_2 := Aside0.mk hi101_2
       have HC101_2 := Aside0.mk hl101_2
       clear hi101_2 hl101_2
       replace p101 := eq_true p101
       replace q101 := eq_true q101
       have p102 : 0 ≤ (x5_1 : Int) := of_decide_eq_true (by first | (with_reducible assumption) | assumption)
       have q102 : x5_1 < (l0.length : Int) := of_decide_eq_true (by first | (with_reducible assumption) | assumption)
       obtain ⟨ad102, A102_2, c102_2, e102, hx102_0, hx102_1, hx102_2, hl102_2, hi102_2⟩ := at_T68 HR0.out x5_1 p102 q102
       obtain rfl : ad101 = ad102 := (by injection e102)
       have HR102_2 := Aside0.mk hi102_2
       have HC102_2 := Aside0.mk hl102_2
       clear hi102_2 hl102_2
       replace p102 := eq_true p102
       replace q102 := eq_true q102
       have ea_ := Option.some.inj (hx101_2.symm.trans hx102_2)
       injection ea_ with ea_ en_ ec_
       subst ea_
       subst ec_
       clear en_
       go_wp2
       go_ret
       exact ⟨by first | rfl | (simp; done) | (simp [*]; done), by repeat (first | exact Drawn0.refl _ | apply Drawn0.step)⟩
     ·rw [if_neg c5] at H
      have c5b0 : (((rd_T68 l0 x5_1).f0) == x1_1) = false := beq_eq_false_iff_ne.mpr c5
      have c5b1 : (((rd_T68 l0 x5_1).f0) != x1_1) = true := bne_iff_ne.mpr c5
      obtain rfl := Option.some.inj H
      have p101 : 0 ≤ (x5_1 : Int) := of_decide_eq_true (by first | (with_reducible assumption) | assumption)
      have q101 : x5_1 < (l0.length : Int) := of_decide_eq_true (by first | (with_reducible assumption) | assumption)
      obtain ⟨ad101, A101_2, c101_2, e101, hx101_0, hx101_1, hx101_2, hl101_2, hi101_2⟩ := at_T68 HR0.out x5_1 p101 q101
      cases e101
      have HR101_2 := Aside0.mk hi101_2
      have HC101_2 := Aside0.mk hl101_2
      clear hi101_2 hl101_2
      replace p101 := eq_true p101
      replace q101 := eq_true q101
      go_wp2
      go_ret
      exact ⟨by first | rfl | (simp; done) | (simp [*]; done), by repeat (first | exact Drawn0.refl _ | apply Drawn0.step)⟩
    ·rw [if_neg c4] at H
     exact absurd H (by simp)
   ·rw [if_neg c3] at H
    have c3b0 : decide (x5_1 < (l0.length : Int)) = false := decide_eq_false c3
    clear c3
    obtain rfl := Option.some.inj H
    go_wp2
    go_ret
    exact ⟨by first | rfl | (simp; done) | (simp [*]; done), by repeat (first | exact Drawn0.refl _ | apply Drawn0.step)⟩

end Go.Proofs.Ytjndadjhhknggaa.Q
end
section
/- Contracts of a function, printed for this claim by a program of ours over the kit's print. -/
namespace Go.Proofs.Ytjndadjhhknggaa.Q
open Go.RowKit Go.Proofs.YtjndadjhhknggaaW.PrintWords Go.Proofs.YtjndadjhhknggaaW.PrintLast Go.Proofs.YtjndadjhhknggaaW.PrintMore
attribute [local go_sem] max2_int min2_int max_two min_two max_three min_three max_four min_four   -- for this text's walks alone
set_option linter.unusedVariables false
set_option linter.unusedSimpArgs false

/-! ### laws_heldSink: function 26 -/
def laws_heldSink.f (k : Nat) (l0_0 : List Int) (a0_1 : Int) (l0_2 : List Int) (l0_3 : List (S68)) (l0_4 : List Int) (a0_5 : Int) (a0_6 : Int) (a1 : Int) : Option (Int) := (laws_heldIntS.f k l0_0 a1).bind fun t102 => (if t102 < 0 then (some (-1)) else ((laws_heldIntS.f k l0_2 t102).bind fun t103 => (if t103 < 0 then (some (-1)) else ((laws_heldPreparedS.f k l0_3 t103).bind fun t104 => (if t104 < 0 then (some (-1)) else ((laws_heldIntS.f k l0_4 t104).bind fun t105 => (if t105 < 0 then (some (-1)) else (some t105))))))))
set_option maxHeartbeats 8000000 in
set_option maxRecDepth 100000 in
theorem laws_heldSink.calls (k : Nat) (A0_0 : Option Addr) (c0_0 : Nat) (l0_0 : List Int) (a0_1 : Int) (A0_2 : Option Addr) (c0_2 : Nat) (l0_2 : List Int) (A0_3 : Option Addr) (c0_3 : Nat) (l0_3 : List (S68)) (A0_4 : Option Addr) (c0_4 : Nat) (l0_4 : List Int) (a0_5 : Int) (a0_6 : Int) (a1 : Int) (r : Int) (w : World) (hr0_0 : Kd.C (Kd.int .i64) w A0_0 l0_0.length l0_0) (hc0_0 : l0_0.length ≤ c0_0) (hr0_2 : Kd.C (Kd.int .i64) w A0_2 l0_2.length l0_2) (hc0_2 : l0_2.length ≤ c0_2) (hr0_3 : Kd.C k68 w A0_3 l0_3.length l0_3) (hc0_3 : l0_3.length ≤ c0_3) (hr0_4 : Kd.C (Kd.int .i64) w A0_4 l0_4.length l0_4) (hc0_4 : l0_4.length ≤ c0_4) (h : laws_heldSink.f k l0_0 a0_1 l0_2 l0_3 l0_4 a0_5 a0_6 a1 = some r) :
  Calls Try.prog 26 #[.agg #[.slice A0_0 l0_0.length c0_0, .int .i64 a0_1, .slice A0_2 l0_2.length c0_2, .slice A0_3 l0_3.length c0_3, .slice A0_4 l0_4.length c0_4, .int .i64 a0_5, .int .i64 a0_6], .int .i64 a1] w fun e w' => e = .returned (.int .i64 r) ∧ Below w.heap.size w w' := by
 have hu28 := Try.underlying28
 have HR0_0 := Aside0.mk hr0_0
 have HC0_0 := Aside0.mk hc0_0
 clear hr0_0 hc0_0
 have HR0_2 := Aside0.mk hr0_2
 have HC0_2 := Aside0.mk hc0_2
 clear hr0_2 hc0_2
 have HR0_3 := Aside0.mk hr0_3
 have HC0_3 := Aside0.mk hc0_3
 clear hr0_3 hc0_3
 have HR0_4 := Aside0.mk hr0_4
 have HC0_4 := Aside0.mk hc0_4
 clear hr0_4 hc0_4
 have HB := Aside0.mk (Below.refl w.heap.size w)
 have H : ((laws_heldIntS.f k l0_0 a1).bind fun t102 => (if t102 < 0 then (some (-1)) else ((laws_heldIntS.f k l0_2 t102).bind fun t103 => (if t103 < 0 then (some (-1)) else ((laws_heldPreparedS.f k l0_3 t103).bind fun t104 => (if t104 < 0 then (some (-1)) else ((laws_heldIntS.f k l0_4 t104).bind fun t105 => (if t105 < 0 then (some (-1)) else (some t105))))))))) = some r := h
 clear h
 replace H := Option.bind_eq_some_iff.mp H
 obtain ⟨t102, A30, H⟩ := H
 replace H : (if t102 < 0 then (some (-1)) else ((laws_heldIntS.f k l0_2 t102).bind fun t103 => (if t103 < 0 then (some (-1)) else ((laws_heldPreparedS.f k l0_3 t103).bind fun t104 => (if t104 < 0 then (some (-1)) else ((laws_heldIntS.f k l0_4 t104).bind fun t105 => (if t105 < 0 then (some (-1)) else (some t105)))))))) = some r := H
 have A3 := Aside0.mk A30
 clear A30
 by_cases c4 : t102 < 0
 ·rw [if_pos c4] at H
  have c4b0 : decide (t102 < 0) = true := decide_eq_true c4
  clear c4
  obtain rfl := Option.some.inj H
  go_enter Try.func26, Try.ntmps26
  go_wp2_with (first | ((with_reducible refine gate_dst (N := 2) rfl ?_); refine box_event ?hg (N := 2) ?hd (cs := #[.slice A0_0 l0_0.length c0_0, .int .i64 a0_1, .slice A0_2 l0_2.length c0_2, .slice A0_3 l0_3.length c0_3, .slice A0_4 l0_4.length c0_4, .int .i64 a0_5, .int .i64 a0_6]) (t := 28) ?hr ?_; (case hd => rfl); (case hg => rfl); (case hr => first | (go_simp; done) | (go_simp; rfl)); intro gb101 hg w5 hbox hb; have n0_ := Aside0.mk (below_step (by repeat (first | (with_reducible first | exact HB.out | apply below_alloc | apply pw_below_drewN | apply below_drew1) | exact HB.out)) hb); have n1_ := Aside0.mk (hbox); have n2_ := Aside0.mk ((by rw [hg]; exact (below_size (by repeat (first | (with_reducible first | exact HB.out | apply below_alloc | apply pw_below_drewN | apply below_drew1) | exact HB.out))) : w.heap.size ≤ gb101)); have n3_ := Aside0.mk ((by rw [hg]; exact (below_size (by repeat (first | (with_reducible first | exact HB.out | apply below_alloc | apply pw_below_drewN | apply below_drew1) | exact HB.out))) : w.heap.size ≤ gb101)); clear HB; have HB := n0_; have BK101 := n1_; have GW101 := n2_; have GE101 := n3_; clear n0_ n1_ n2_ n3_; clear hb hbox hg; have hcz6_0 : w5.cell? ⟨gb101, 0, none⟩ = some (.slice A0_0 l0_0.length c0_0) := (blk_cell BK101.out 0).trans rfl; have hcz6_1 : w5.cell? ⟨gb101, 1, none⟩ = some (.int .i64 a0_1) := (blk_cell BK101.out 1).trans rfl; have hcz6_2 : w5.cell? ⟨gb101, 2, none⟩ = some (.slice A0_2 l0_2.length c0_2) := (blk_cell BK101.out 2).trans rfl; have hcz6_3 : w5.cell? ⟨gb101, 3, none⟩ = some (.slice A0_3 l0_3.length c0_3) := (blk_cell BK101.out 3).trans rfl; have hcz6_4 : w5.cell? ⟨gb101, 4, none⟩ = some (.slice A0_4 l0_4.length c0_4) := (blk_cell BK101.out 4).trans rfl; have hcz6_5 : w5.cell? ⟨gb101, 5, none⟩ = some (.int .i64 a0_5) := (blk_cell BK101.out 5).trans rfl; have hcz6_6 : w5.cell? ⟨gb101, 6, none⟩ = some (.int .i64 a0_6) := (blk_cell BK101.out 6).trans rfl; have hfz6_0 := blk_frozen BK101.out 0; have hfz6_1 := blk_frozen BK101.out 1; have hfz6_2 := blk_frozen BK101.out 2; have hfz6_3 := blk_frozen BK101.out 3; have hfz6_4 := blk_frozen BK101.out 4; have hfz6_5 := blk_frozen BK101.out 5; have hfz6_6 := blk_frozen BK101.out 6) | ((with_reducible refine gate_callee (f := 53) rfl ?_); refine goesL_ (some 8) rfl rfl Try.func53 (by kernel_rfl) rfl #[.slice A0_0 l0_0.length c0_0, .int .i64 a1] rfl (by (try simp only [List.map_toArray, List.map_cons, List.map_nil]); first | done | rfl | (simp only [List.length_drop, List.length_take]; rfl)) ?_; (with_reducible refine (laws_heldIntS.calls k _ _ l0_0 a1 t102 _ ?side1 ?side2 A3.out).mono ?_); (case side1 => repeat (first | exact (Kd.C_below HR0_0.out HB.out) | (with_reducible refine Kd.C_alloc ?_ _) | (with_reducible refine Kd.C_drewN ?_ _) | (with_reducible refine Kd.C_drew ?_))); (case side2 => exact HC0_0.out); rintro e w' ⟨rfl, ⟨nd, rfl⟩⟩; refine ⟨_, rfl, ?_⟩))
  go_ret
  exact ⟨by first | rfl | (simp [errW_none, errW_some] <;> rfl) | (simp [*, errW_none, errW_some] <;> rfl), by repeat (first | (with_reducible first | exact HB.out | apply below_alloc | apply pw_below_drewN | apply below_drew1 | refine below_set ?_ GE101.out) | exact HB.out)⟩
 ·rw [if_neg c4] at H
  have c4b0 : decide (t102 < 0) = false := decide_eq_false c4
  clear c4
  replace H := Option.bind_eq_some_iff.mp H
  obtain ⟨t103, A70, H⟩ := H
  replace H : (if t103 < 0 then (some (-1)) else ((laws_heldPreparedS.f k l0_3 t103).bind fun t104 => (if t104 < 0 then (some (-1)) else ((laws_heldIntS.f k l0_4 t104).bind fun t105 => (if t105 < 0 then (some (-1)) else (some t105)))))) = some r := H
  have A7 := Aside0.mk A70
  clear A70
  by_cases c8 : t103 < 0
  ·rw [if_pos c8] at H
   have c8b0 : decide (t103 < 0) = true := decide_eq_true c8
   clear c8
   obtain rfl := Option.some.inj H
   go_enter Try.func26, Try.ntmps26
   go_wp2_with (first | ((with_reducible refine gate_dst (N := 2) rfl ?_); refine box_event ?hg (N := 2) ?hd (cs := #[.slice A0_0 l0_0.length c0_0, .int .i64 a0_1, .slice A0_2 l0_2.length c0_2, .slice A0_3 l0_3.length c0_3, .slice A0_4 l0_4.length c0_4, .int .i64 a0_5, .int .i64 a0_6]) (t := 28) ?hr ?_; (case hd => rfl); (case hg => rfl); (case hr => first | (go_simp; done) | (go_simp; rfl)); intro gb101 hg w9 hbox hb; have n0_ := Aside0.mk (below_step (by repeat (first | (with_reducible first | exact HB.out | apply below_alloc | apply pw_below_drewN | apply below_drew1) | exact HB.out)) hb); have n1_ := Aside0.mk (hbox); have n2_ := Aside0.mk ((by rw [hg]; exact (below_size (by repeat (first | (with_reducible first | exact HB.out | apply below_alloc | apply pw_below_drewN | apply below_drew1) | exact HB.out))) : w.heap.size ≤ gb101)); have n3_ := Aside0.mk ((by rw [hg]; exact (below_size (by repeat (first | (with_reducible first | exact HB.out | apply below_alloc | apply pw_below_drewN | apply below_drew1) | exact HB.out))) : w.heap.size ≤ gb101)); clear HB; have HB := n0_; have BK101 := n1_; have GW101 := n2_; have GE101 := n3_; clear n0_ n1_ n2_ n3_; clear hb hbox hg; have hcz10_0 : w9.cell? ⟨gb101, 0, none⟩ = some (.slice A0_0 l0_0.length c0_0) := (blk_cell BK101.out 0).trans rfl; have hcz10_1 : w9.cell? ⟨gb101, 1, none⟩ = some (.int .i64 a0_1) := (blk_cell BK101.out 1).trans rfl; have hcz10_2 : w9.cell? ⟨gb101, 2, none⟩ = some (.slice A0_2 l0_2.length c0_2) := (blk_cell BK101.out 2).trans rfl; have hcz10_3 : w9.cell? ⟨gb101, 3, none⟩ = some (.slice A0_3 l0_3.length c0_3) := (blk_cell BK101.out 3).trans rfl; have hcz10_4 : w9.cell? ⟨gb101, 4, none⟩ = some (.slice A0_4 l0_4.length c0_4) := (blk_cell BK101.out 4).trans rfl; have hcz10_5 : w9.cell? ⟨gb101, 5, none⟩ = some (.int .i64 a0_5) := (blk_cell BK101.out 5).trans rfl; have hcz10_6 : w9.cell? ⟨gb101, 6, none⟩ = some (.int .i64 a0_6) := (blk_cell BK101.out 6).trans rfl; have hfz10_0 := blk_frozen BK101.out 0; have hfz10_1 := blk_frozen BK101.out 1; have hfz10_2 := blk_frozen BK101.out 2; have hfz10_3 := blk_frozen BK101.out 3; have hfz10_4 := blk_frozen BK101.out 4; have hfz10_5 := blk_frozen BK101.out 5; have hfz10_6 := blk_frozen BK101.out 6) | ((with_reducible refine gate_callee (f := 53) rfl ?_); refine goesL_ (some 8) rfl rfl Try.func53 (by kernel_rfl) rfl #[.slice A0_0 l0_0.length c0_0, .int .i64 a1] rfl (by (try simp only [List.map_toArray, List.map_cons, List.map_nil]); first | done | rfl | (simp only [List.length_drop, List.length_take]; rfl)) ?_; (with_reducible refine (laws_heldIntS.calls k _ _ l0_0 a1 t102 _ ?side1 ?side2 A3.out).mono ?_); (case side1 => repeat (first | exact (Kd.C_below HR0_0.out HB.out) | (with_reducible refine Kd.C_alloc ?_ _) | (with_reducible refine Kd.C_drewN ?_ _) | (with_reducible refine Kd.C_drew ?_))); (case side2 => exact HC0_0.out); rintro e w' ⟨rfl, ⟨nd, rfl⟩⟩; refine ⟨_, rfl, ?_⟩) | ((with_reducible refine gate_callee (f := 53) rfl ?_); refine goesL_ (some 14) rfl rfl Try.func53 (by kernel_rfl) rfl #[.slice A0_2 l0_2.length c0_2, .int .i64 t102] rfl (by (try simp only [List.map_toArray, List.map_cons, List.map_nil]); first | done | rfl | (simp only [List.length_drop, List.length_take]; rfl)) ?_; (with_reducible refine (laws_heldIntS.calls k _ _ l0_2 t102 t103 _ ?side1 ?side2 A7.out).mono ?_); (case side1 => repeat (first | exact (Kd.C_below HR0_2.out (by repeat (first | (with_reducible first | exact HB.out | apply below_alloc | apply pw_below_drewN | apply below_drew1 | refine below_set ?_ GE101.out) | exact HB.out))) | (with_reducible refine Kd.C_alloc ?_ _) | (with_reducible refine Kd.C_drewN ?_ _) | (with_reducible refine Kd.C_drew ?_))); (case side2 => exact HC0_2.out); rintro e w' ⟨rfl, ⟨nd, rfl⟩⟩; refine ⟨_, rfl, ?_⟩))
   go_ret
   exact ⟨by first | rfl | (simp [errW_none, errW_some] <;> rfl) | (simp [*, errW_none, errW_some] <;> rfl), by repeat (first | (with_reducible first | exact HB.out | apply below_alloc | apply pw_below_drewN | apply below_drew1 | refine below_set ?_ GE101.out) | exact HB.out)⟩
  ·rw [if_neg c8] at H
   have c8b0 : decide (t103 < 0) = false := decide_eq_false c8
   clear c8
   replace H := Option.bind_eq_some_iff.mp H
   obtain ⟨t104, A110, H⟩ := H
   replace H : (if t104 < 0 then (some (-1)) else ((laws_heldIntS.f k l0_4 t104).bind fun t105 => (if t105 < 0 then (some (-1)) else (some t105)))) = some r := H
   have A11 := Aside0.mk A110
   clear A110
   by_cases c12 : t104 < 0
   ·rw [if_pos c12] at H
    have c12b0 : decide (t104 < 0) = true := decide_eq_true c12
    clear c12
    obtain rfl := Option.some.inj H
    go_enter Try.func26, Try.ntmps26
    go_wp2_with (first | ((with_reducible refine gate_dst (N := 2) rfl ?_); refine box_event ?hg (N := 2) ?hd (cs := #[.slice A0_0 l0_0.length c0_0, .int .i64 a0_1, .slice A0_2 l0_2.length c0_2, .slice A0_3 l0_3.length c0_3, .slice A0_4 l0_4.length c0_4, .int .i64 a0_5, .int .i64 a0_6]) (t := 28) ?hr ?_; (case hd => rfl); (case hg => rfl); (case hr => first | (go_simp; done) | (go_simp; rfl)); intro gb101 hg w13 hbox hb; have n0_ := Aside0.mk (below_step (by repeat (first | (with_reducible first | exact HB.out | apply below_alloc | apply pw_below_drewN | apply below_drew1) | exact HB.out)) hb); have n1_ := Aside0.mk (hbox); have n2_ := Aside0.mk ((by rw [hg]; exact (below_size (by repeat (first | (with_reducible first | exact HB.out | apply below_alloc | apply pw_below_drewN | apply below_drew1) | exact HB.out))) : w.heap.size ≤ gb101)); have n3_ := Aside0.mk ((by rw [hg]; exact (below_size (by repeat (first | (with_reducible first | exact HB.out | apply below_alloc | apply pw_below_drewN | apply below_drew1) | exact HB.out))) : w.heap.size ≤ gb101)); clear HB; have HB := n0_; have BK101 := n1_; have GW101 := n2_; have GE101 := n3_; clear n0_ n1_ n2_ n3_; clear hb hbox hg; have hcz14_0 : w13.cell? ⟨gb101, 0, none⟩ = some (.slice A0_0 l0_0.length c0_0) := (blk_cell BK101.out 0).trans rfl; have hcz14_1 : w13.cell? ⟨gb101, 1, none⟩ = some (.int .i64 a0_1) := (blk_cell BK101.out 1).trans rfl; have hcz14_2 : w13.cell? ⟨gb101, 2, none⟩ = some (.slice A0_2 l0_2.length c0_2) := (blk_cell BK101.out 2).trans rfl; have hcz14_3 : w13.cell? ⟨gb101, 3, none⟩ = some (.slice A0_3 l0_3.length c0_3) := (blk_cell BK101.out 3).trans rfl; have hcz14_4 : w13.cell? ⟨gb101, 4, none⟩ = some (.slice A0_4 l0_4.length c0_4) := (blk_cell BK101.out 4).trans rfl; have hcz14_5 : w13.cell? ⟨gb101, 5, none⟩ = some (.int .i64 a0_5) := (blk_cell BK101.out 5).trans rfl; have hcz14_6 : w13.cell? ⟨gb101, 6, none⟩ = some (.int .i64 a0_6) := (blk_cell BK101.out 6).trans rfl; have hfz14_0 := blk_frozen BK101.out 0; have hfz14_1 := blk_frozen BK101.out 1; have hfz14_2 := blk_frozen BK101.out 2; have hfz14_3 := blk_frozen BK101.out 3; have hfz14_4 := blk_frozen BK101.out 4; have hfz14_5 := blk_frozen BK101.out 5; have hfz14_6 := blk_frozen BK101.out 6) | ((with_reducible refine gate_callee (f := 53) rfl ?_); refine goesL_ (some 8) rfl rfl Try.func53 (by kernel_rfl) rfl #[.slice A0_0 l0_0.length c0_0, .int .i64 a1] rfl (by (try simp only [List.map_toArray, List.map_cons, List.map_nil]); first | done | rfl | (simp only [List.length_drop, List.length_take]; rfl)) ?_; (with_reducible refine (laws_heldIntS.calls k _ _ l0_0 a1 t102 _ ?side1 ?side2 A3.out).mono ?_); (case side1 => repeat (first | exact (Kd.C_below HR0_0.out HB.out) | (with_reducible refine Kd.C_alloc ?_ _) | (with_reducible refine Kd.C_drewN ?_ _) | (with_reducible refine Kd.C_drew ?_))); (case side2 => exact HC0_0.out); rintro e w' ⟨rfl, ⟨nd, rfl⟩⟩; refine ⟨_, rfl, ?_⟩) | ((with_reducible refine gate_callee (f := 53) rfl ?_); refine goesL_ (some 14) rfl rfl Try.func53 (by kernel_rfl) rfl #[.slice A0_2 l0_2.length c0_2, .int .i64 t102] rfl (by (try simp only [List.map_toArray, List.map_cons, List.map_nil]); first | done | rfl | (simp only [List.length_drop, List.length_take]; rfl)) ?_; (with_reducible refine (laws_heldIntS.calls k _ _ l0_2 t102 t103 _ ?side1 ?side2 A7.out).mono ?_); (case side1 => repeat (first | exact (Kd.C_below HR0_2.out (by repeat (first | (with_reducible first | exact HB.out | apply below_alloc | apply pw_below_drewN | apply below_drew1 | refine below_set ?_ GE101.out) | exact HB.out))) | (with_reducible refine Kd.C_alloc ?_ _) | (with_reducible refine Kd.C_drewN ?_ _) | (with_reducible refine Kd.C_drew ?_))); (case side2 => exact HC0_2.out); rintro e w' ⟨rfl, ⟨nd, rfl⟩⟩; refine ⟨_, rfl, ?_⟩) | ((with_reducible refine gate_callee (f := 54) rfl ?_); refine goesL_ (some 20) rfl rfl Try.func54 (by kernel_rfl) rfl #[.slice A0_3 l0_3.length c0_3, .int .i64 t103] rfl (by (try simp only [List.map_toArray, List.map_cons, List.map_nil]); first | done | rfl | (simp only [List.length_drop, List.length_take]; rfl)) ?_; (with_reducible refine (laws_heldPreparedS.calls k _ _ l0_3 t103 t104 _ ?side1 ?side2 A11.out).mono ?_); (case side1 => repeat (first | exact (Kd.C_below HR0_3.out (by repeat (first | (with_reducible first | exact HB.out | apply below_alloc | apply pw_below_drewN | apply below_drew1 | refine below_set ?_ GE101.out) | exact HB.out))) | (with_reducible refine Kd.C_alloc ?_ _) | (with_reducible refine Kd.C_drewN ?_ _) | (with_reducible refine Kd.C_drew ?_))); (case side2 => exact HC0_3.out); rintro e w' ⟨rfl, ⟨nd, rfl⟩⟩; refine ⟨_, rfl, ?_⟩))
    go_ret
    exact ⟨by first | rfl | (simp [errW_none, errW_some] <;> rfl) | (simp [*, errW_none, errW_some] <;> rfl), by repeat (first | (with_reducible first | exact HB.out | apply below_alloc | apply pw_below_drewN | apply below_drew1 | refine below_set ?_ GE101.out) | exact HB.out)⟩
   ·rw [if_neg c12] at H
    have c12b0 : decide (t104 < 0) = false := decide_eq_false c12
    clear c12
    replace H := Option.bind_eq_some_iff.mp H
    obtain ⟨t105, A150, H⟩ := H
    replace H : (if t105 < 0 then (some (-1)) else (some t105)) = some r := H
    have A15 := Aside0.mk A150
    clear A150
    by_cases c16 : t105 < 0
    ·rw [if_pos c16] at H
     have c16b0 : decide (t105 < 0) = true := decide_eq_true c16
     clear c16
     obtain rfl := Option.some.inj H
     go_enter Try.func26, Try.ntmps26
     go_wp2_with (first | ((with_reducible refine gate_dst (N := 2) rfl ?_); refine box_event ?hg (N := 2) ?hd (cs := #[.slice A0_0 l0_0.length c0_0, .int .i64 a0_1, .slice A0_2 l0_2.length c0_2, .slice A0_3 l0_3.length c0_3, .slice A0_4 l0_4.length c0_4, .int .i64 a0_5, .int .i64 a0_6]) (t := 28) ?hr ?_; (case hd => rfl); (case hg => rfl); (case hr => first | (go_simp; done) | (go_simp; rfl)); intro gb101 hg w17 hbox hb; have n0_ := Aside0.mk (below_step (by repeat (first | (with_reducible first | exact HB.out | apply below_alloc | apply pw_below_drewN | apply below_drew1) | exact HB.out)) hb); have n1_ := Aside0.mk (hbox); have n2_ := Aside0.mk ((by rw [hg]; exact (below_size (by repeat (first | (with_reducible first | exact HB.out | apply below_alloc | apply pw_below_drewN | apply below_drew1) | exact HB.out))) : w.heap.size ≤ gb101)); have n3_ := Aside0.mk ((by rw [hg]; exact (below_size (by repeat (first | (with_reducible first | exact HB.out | apply below_alloc | apply pw_below_drewN | apply below_drew1) | exact HB.out))) : w.heap.size ≤ gb101)); clear HB; have HB := n0_; have BK101 := n1_; have GW101 := n2_; have GE101 := n3_; clear n0_ n1_ n2_ n3_; clear hb hbox hg; have hcz18_0 : w17.cell? ⟨gb101, 0, none⟩ = some (.slice A0_0 l0_0.length c0_0) := (blk_cell BK101.out 0).trans rfl; have hcz18_1 : w17.cell? ⟨gb101, 1, none⟩ = some (.int .i64 a0_1) := (blk_cell BK101.out 1).trans rfl; have hcz18_2 : w17.cell? ⟨gb101, 2, none⟩ = some (.slice A0_2 l0_2.length c0_2) := (blk_cell BK101.out 2).trans rfl; have hcz18_3 : w17.cell? ⟨gb101, 3, none⟩ = some (.slice A0_3 l0_3.length c0_3) := (blk_cell BK101.out 3).trans rfl; have hcz18_4 : w17.cell? ⟨gb101, 4, none⟩ = some (.slice A0_4 l0_4.length c0_4) := (blk_cell BK101.out 4).trans rfl; have hcz18_5 : w17.cell? ⟨gb101, 5, none⟩ = some (.int .i64 a0_5) := (blk_cell BK101.out 5).trans rfl; have hcz18_6 : w17.cell? ⟨gb101, 6, none⟩ = some (.int .i64 a0_6) := (blk_cell BK101.out 6).trans rfl; have hfz18_0 := blk_frozen BK101.out 0; have hfz18_1 := blk_frozen BK101.out 1; have hfz18_2 := blk_frozen BK101.out 2; have hfz18_3 := blk_frozen BK101.out 3; have hfz18_4 := blk_frozen BK101.out 4; have hfz18_5 := blk_frozen BK101.out 5; have hfz18_6 := blk_frozen BK101.out 6) | ((with_reducible refine gate_callee (f := 53) rfl ?_); refine goesL_ (some 8) rfl rfl Try.func53 (by kernel_rfl) rfl #[.slice A0_0 l0_0.length c0_0, .int .i64 a1] rfl (by (try simp only [List.map_toArray, List.map_cons, List.map_nil]); first | done | rfl | (simp only [List.length_drop, List.length_take]; rfl)) ?_; (with_reducible refine (laws_heldIntS.calls k _ _ l0_0 a1 t102 _ ?side1 ?side2 A3.out).mono ?_); (case side1 => repeat (first | exact (Kd.C_below HR0_0.out HB.out) | (with_reducible refine Kd.C_alloc ?_ _) | (with_reducible refine Kd.C_drewN ?_ _) | (with_reducible refine Kd.C_drew ?_))); (case side2 => exact HC0_0.out); rintro e w' ⟨rfl, ⟨nd, rfl⟩⟩; refine ⟨_, rfl, ?_⟩) | ((with_reducible refine gate_callee (f := 53) rfl ?_); refine goesL_ (some 14) rfl rfl Try.func53 (by kernel_rfl) rfl #[.slice A0_2 l0_2.length c0_2, .int .i64 t102] rfl (by (try simp only [List.map_toArray, List.map_cons, List.map_nil]); first | done | rfl | (simp only [List.length_drop, List.length_take]; rfl)) ?_; (with_reducible refine (laws_heldIntS.calls k _ _ l0_2 t102 t103 _ ?side1 ?side2 A7.out).mono ?_); (case side1 => repeat (first | exact (Kd.C_below HR0_2.out (by repeat (first | (with_reducible first | exact HB.out | apply below_alloc | apply pw_below_drewN | apply below_drew1 | refine below_set ?_ GE101.out) | exact HB.out))) | (with_reducible refine Kd.C_alloc ?_ _) | (with_reducible refine Kd.C_drewN ?_ _) | (with_reducible refine Kd.C_drew ?_))); (case side2 => exact HC0_2.out); rintro e w' ⟨rfl, ⟨nd, rfl⟩⟩; refine ⟨_, rfl, ?_⟩) | ((with_reducible refine gate_callee (f := 54) rfl ?_); refine goesL_ (some 20) rfl rfl Try.func54 (by kernel_rfl) rfl #[.slice A0_3 l0_3.length c0_3, .int .i64 t103] rfl (by (try simp only [List.map_toArray, List.map_cons, List.map_nil]); first | done | rfl | (simp only [List.length_drop, List.length_take]; rfl)) ?_; (with_reducible refine (laws_heldPreparedS.calls k _ _ l0_3 t103 t104 _ ?side1 ?side2 A11.out).mono ?_); (case side1 => repeat (first | exact (Kd.C_below HR0_3.out (by repeat (first | (with_reducible first | exact HB.out | apply below_alloc | apply pw_below_drewN | apply below_drew1 | refine below_set ?_ GE101.out) | exact HB.out))) | (with_reducible refine Kd.C_alloc ?_ _) | (with_reducible refine Kd.C_drewN ?_ _) | (with_reducible refine Kd.C_drew ?_))); (case side2 => exact HC0_3.out); rintro e w' ⟨rfl, ⟨nd, rfl⟩⟩; refine ⟨_, rfl, ?_⟩) | ((with_reducible refine gate_callee (f := 53) rfl ?_); refine goesL_ (some 26) rfl rfl Try.func53 (by kernel_rfl) rfl #[.slice A0_4 l0_4.length c0_4, .int .i64 t104] rfl (by (try simp only [List.map_toArray, List.map_cons, List.map_nil]); first | done | rfl | (simp only [List.length_drop, List.length_take]; rfl)) ?_; (with_reducible refine (laws_heldIntS.calls k _ _ l0_4 t104 t105 _ ?side1 ?side2 A15.out).mono ?_); (case side1 => repeat (first | exact (Kd.C_below HR0_4.out (by repeat (first | (with_reducible first | exact HB.out | apply below_alloc | apply pw_below_drewN | apply below_drew1 | refine below_set ?_ GE101.out) | exact HB.out))) | (with_reducible refine Kd.C_alloc ?_ _) | (with_reducible refine Kd.C_drewN ?_ _) | (with_reducible refine Kd.C_drew ?_))); (case side2 => exact HC0_4.out); rintro e w' ⟨rfl, ⟨nd, rfl⟩⟩; refine ⟨_, rfl, ?_⟩))
     go_ret
     exact ⟨by first | rfl | (simp [errW_none, errW_some] <;> rfl) | (simp [*, errW_none, errW_some] <;> rfl), by repeat (first | (with_reducible first | exact HB.out | apply below_alloc | apply pw_below_drewN | apply below_drew1 | refine below_set ?_ GE101.out) | exact HB.out)⟩
    ·rw [if_neg c16] at H
     have c16b0 : decide (t105 < 0) = false := decide_eq_false c16
     clear c16
     obtain rfl := Option.some.inj H
     go_enter Try.func26, Try.ntmps26
     go_wp2_with (first | ((with_reducible refine gate_dst (N := 2) rfl ?_); refine box_event ?hg (N := 2) ?hd (cs := #[.slice A0_0 l0_0.length c0_0, .int .i64 a0_1, .slice A0_2 l0_2.length c0_2, .slice A0_3 l0_3.length c0_3, .slice A0_4 l0_4.length c0_4, .int .i64 a0_5, .int .i64 a0_6]) (t := 28) ?hr ?_; (case hd => rfl); (case hg => rfl); (case hr => first | (go_simp; done) | (go_simp; rfl)); intro gb101 hg w19 hbox hb; have n0_ := Aside0.mk (below_step (by repeat (first | (with_reducible first | exact HB.out | apply below_alloc | apply pw_below_drewN | apply below_drew1) | exact HB.out)) hb); have n1_ := Aside0.mk (hbox); have n2_ := Aside0.mk ((by rw [hg]; exact (below_size (by repeat (first | (with_reducible first | exact HB.out | apply below_alloc | apply pw_below_drewN | apply below_drew1) | exact HB.out))) : w.heap.size ≤ gb101)); have n3_ := Aside0.mk ((by rw [hg]; exact (below_size (by repeat (first | (with_reducible first | exact HB.out | apply below_alloc | apply pw_below_drewN | apply below_drew1) | exact HB.out))) : w.heap.size ≤ gb101)); clear HB; have HB := n0_; have BK101 := n1_; have GW101 := n2_; have GE101 := n3_; clear n0_ n1_ n2_ n3_; clear hb hbox hg; have hcz20_0 : w19.cell? ⟨gb101, 0, none⟩ = some (.slice A0_0 l0_0.length c0_0) := (blk_cell BK101.out 0).trans rfl; have hcz20_1 : w19.cell? ⟨gb101, 1, none⟩ = some (.int .i64 a0_1) := (blk_cell BK101.out 1).trans rfl; have hcz20_2 : w19.cell? ⟨gb101, 2, none⟩ = some (.slice A0_2 l0_2.length c0_2) := (blk_cell BK101.out 2).trans rfl; have hcz20_3 : w19.cell? ⟨gb101, 3, none⟩ = some (.slice A0_3 l0_3.length c0_3) := (blk_cell BK101.out 3).trans rfl; have hcz20_4 : w19.cell? ⟨gb101, 4, none⟩ = some (.slice A0_4 l0_4.length c0_4) := (blk_cell BK101.out 4).trans rfl; have hcz20_5 : w19.cell? ⟨gb101, 5, none⟩ = some (.int .i64 a0_5) := (blk_cell BK101.out 5).trans rfl; have hcz20_6 : w19.cell? ⟨gb101, 6, none⟩ = some (.int .i64 a0_6) := (blk_cell BK101.out 6).trans rfl; have hfz20_0 := blk_frozen BK101.out 0; have hfz20_1 := blk_frozen BK101.out 1; have hfz20_2 := blk_frozen BK101.out 2; have hfz20_3 := blk_frozen BK101.out 3; have hfz20_4 := blk_frozen BK101.out 4; have hfz20_5 := blk_frozen BK101.out 5; have hfz20_6 := blk_frozen BK101.out 6) | ((with_reducible refine gate_callee (f := 53) rfl ?_); refine goesL_ (some 8) rfl rfl Try.func53 (by kernel_rfl) rfl #[.slice A0_0 l0_0.length c0_0, .int .i64 a1] rfl (by (try simp only [List.map_toArray, List.map_cons, List.map_nil]); first | done | rfl | (simp only [List.length_drop, List.length_take]; rfl)) ?_; (with_reducible refine (laws_heldIntS.calls k _ _ l0_0 a1 t102 _ ?side1 ?side2 A3.out).mono ?_); (case side1 => repeat (first | exact (Kd.C_below HR0_0.out HB.out) | (with_reducible refine Kd.C_alloc ?_ _) | (with_reducible refine Kd.C_drewN ?_ _) | (with_reducible refine Kd.C_drew ?_))); (case side2 => exact HC0_0.out); rintro e w' ⟨rfl, ⟨nd, rfl⟩⟩; refine ⟨_, rfl, ?_⟩) | ((with_reducible refine gate_callee (f := 53) rfl ?_); refine goesL_ (some 14) rfl rfl Try.func53 (by kernel_rfl) rfl #[.slice A0_2 l0_2.length c0_2, .int .i64 t102] rfl (by (try simp only [List.map_toArray, List.map_cons, List.map_nil]); first | done | rfl | (simp only [List.length_drop, List.length_take]; rfl)) ?_; (with_reducible refine (laws_heldIntS.calls k _ _ l0_2 t102 t103 _ ?side1 ?side2 A7.out).mono ?_); (case side1 => repeat (first | exact (Kd.C_below HR0_2.out (by repeat (first | (with_reducible first | exact HB.out | apply below_alloc | apply pw_below_drewN | apply below_drew1 | refine below_set ?_ GE101.out) | exact HB.out))) | (with_reducible refine Kd.C_alloc ?_ _) | (with_reducible refine Kd.C_drewN ?_ _) | (with_reducible refine Kd.C_drew ?_))); (case side2 => exact HC0_2.out); rintro e w' ⟨rfl, ⟨nd, rfl⟩⟩; refine ⟨_, rfl, ?_⟩) | ((with_reducible refine gate_callee (f := 54) rfl ?_); refine goesL_ (some 20) rfl rfl Try.func54 (by kernel_rfl) rfl #[.slice A0_3 l0_3.length c0_3, .int .i64 t103] rfl (by (try simp only [List.map_toArray, List.map_cons, List.map_nil]); first | done | rfl | (simp only [List.length_drop, List.length_take]; rfl)) ?_; (with_reducible refine (laws_heldPreparedS.calls k _ _ l0_3 t103 t104 _ ?side1 ?side2 A11.out).mono ?_); (case side1 => repeat (first | exact (Kd.C_below HR0_3.out (by repeat (first | (with_reducible first | exact HB.out | apply below_alloc | apply pw_below_drewN | apply below_drew1 | refine below_set ?_ GE101.out) | exact HB.out))) | (with_reducible refine Kd.C_alloc ?_ _) | (with_reducible refine Kd.C_drewN ?_ _) | (with_reducible refine Kd.C_drew ?_))); (case side2 => exact HC0_3.out); rintro e w' ⟨rfl, ⟨nd, rfl⟩⟩; refine ⟨_, rfl, ?_⟩) | ((with_reducible refine gate_callee (f := 53) rfl ?_); refine goesL_ (some 26) rfl rfl Try.func53 (by kernel_rfl) rfl #[.slice A0_4 l0_4.length c0_4, .int .i64 t104] rfl (by (try simp only [List.map_toArray, List.map_cons, List.map_nil]); first | done | rfl | (simp only [List.length_drop, List.length_take]; rfl)) ?_; (with_reducible refine (laws_heldIntS.calls k _ _ l0_4 t104 t105 _ ?side1 ?side2 A15.out).mono ?_); (case side1 => repeat (first | exact (Kd.C_below HR0_4.out (by repeat (first | (with_reducible first | exact HB.out | apply below_alloc | apply pw_below_drewN | apply below_drew1 | refine below_set ?_ GE101.out) | exact HB.out))) | (with_reducible refine Kd.C_alloc ?_ _) | (with_reducible refine Kd.C_drewN ?_ _) | (with_reducible refine Kd.C_drew ?_))); (case side2 => exact HC0_4.out); rintro e w' ⟨rfl, ⟨nd, rfl⟩⟩; refine ⟨_, rfl, ?_⟩))
     go_ret
     exact ⟨by first | rfl | (simp [errW_none, errW_some] <;> rfl) | (simp [*, errW_none, errW_some] <;> rfl), by repeat (first | (with_reducible first | exact HB.out | apply below_alloc | apply pw_below_drewN | apply below_drew1 | refine below_set ?_ GE101.out) | exact HB.out)⟩

end Go.Proofs.Ytjndadjhhknggaa.Q
end
section
/- The law's own helpers over sinks, as plain functions. -/
namespace Go.Proofs.Ytjndadjhhknggaa.Q
open Go.RowKit Go.Proofs.YtjndadjhhknggaaW.PrintWords Go.Proofs.YtjndadjhhknggaaW.PrintLast
set_option linter.unusedVariables false
set_option linter.unusedSimpArgs false

/-! ### sizes -/
theorem szInt_f (l : List Int) (a : Int) (h0 : 0 ≤ a) (h1 : a ≤ 1048576) (hl : l.length ≤ 9223372036854775807) : ∃ r, laws_szIntS.f l a = some r ∧ (0 ≤ r → r = a - l.length) ∧ r ≤ 1048576 ∧ -1 ≤ r := by
 unfold laws_szIntS.f
 rw [wrap_id _ (by omega) (by omega)]
 split
 ·exact ⟨_, rfl, by omega, by omega, by omega⟩
 ·exact ⟨_, rfl, by omega, by omega, by omega⟩
theorem szPrep_f (x y : Int) (l : List Int) (a : Int) (h0 : 0 ≤ a) (h1 : a ≤ 1048576) (hl : l.length ≤ 9223372036854775807) : ∃ r, laws_szPrepared.f x y l a = some r ∧ (0 ≤ r → r = a - l.length) ∧ r ≤ 1048576 ∧ -1 ≤ r := by
 obtain ⟨r, hr, h2, h3, h4⟩ := szInt_f l a h0 h1 hl
 unfold laws_szPrepared.f
 rw [hr]
 simp only [Option.bind_some]
 split
 ·exact ⟨_, rfl, by omega, by omega, by omega⟩
 ·exact ⟨_, rfl, h2, h3, h4⟩
def klen (l : List S82) : Nat := (l.map fun g => g.f2.length).sum
theorem rd82_at (l : List S82) (i : Nat) (h : i < l.length) : rd_T82 l (i : Int) = l[i] := by
 show l.getD i z82 = _
 rw [List.getD_eq_getElem?_getD, List.getElem?_eq_getElem h]; rfl
theorem szPreparedS_l0 (l : List S82) (hb : ∀ x ∈ l, x.f2.length ≤ 9223372036854775807) (hl : l.length ≤ 1048576) (d : Nat) : ∀ (f i : Nat) (a : Int), 0 ≤ a → a ≤ 1048576 → i + d = l.length → d < f → ∃ r, laws_szPreparedS.l0 f l a (i : Int) = some r ∧ (0 ≤ r → r = a - klen (l.drop i)) ∧ r ≤ 1048576 ∧ -1 ≤ r := by
 induction d with
 | zero =>
  intro f i a h0 h1 hi hf
  obtain ⟨f, rfl⟩ : ∃ m, f = m + 1 := ⟨f - 1, by omega⟩
  simp only [laws_szPreparedS.l0]
  rw [if_neg (by omega), List.drop_eq_nil_of_le (by omega)]
  exact ⟨a, rfl, by simp [klen], by omega, by omega⟩
 | succ d ih =>
  intro f i a h0 h1 hi hf
  obtain ⟨f, rfl⟩ : ∃ m, f = m + 1 := ⟨f - 1, by omega⟩
  have hlt : i < l.length := by omega
  simp only [laws_szPreparedS.l0]
  rw [if_pos (by omega), if_pos (by omega), rd82_at l i hlt, wrap_id ((i : Int) + 1) (by omega) (by omega)]
  obtain ⟨r, hr, h2, h3, h4⟩ := szPrep_f l[i].f0 l[i].f1 l[i].f2 a h0 h1 (hb _ (List.getElem_mem hlt))
  rw [hr, drop_at l i hlt]
  simp only [Option.bind_some]
  split
  ·exact ⟨_, rfl, by omega, by omega, by omega⟩
  ·obtain ⟨r2, hr2, h5, h6, h7⟩ := ih f (i + 1) r (by omega) (by omega) (by omega) (by omega)
   rw [show ((i + 1 : Nat) : Int) = (i : Int) + 1 from by omega] at hr2
   refine ⟨r2, hr2, fun h => ?_, h6, h7⟩
   have e1 := h5 h
   have e2 := h2 (by omega)
   have e3 : klen (l[i] :: l.drop (i + 1)) = l[i].f2.length + klen (l.drop (i + 1)) := by simp only [klen, List.map_cons, List.sum_cons]
   rw [e3]
   omega
theorem szPreparedS_f (l : List S82) (a : Int) (h0 : 0 ≤ a) (h1 : a ≤ 1048576) (hb : ∀ x ∈ l, x.f2.length ≤ 9223372036854775807) (hl : l.length ≤ 9223372036854775807) : ∃ r, laws_szPreparedS.f (l.length + 1) l a = some r ∧ (0 ≤ r → r = a - l.length - klen l) ∧ r ≤ 1048576 ∧ -1 ≤ r := by
 unfold laws_szPreparedS.f
 rw [wrap_id _ (by omega) (by omega)]
 by_cases h : a - (l.length : Int) < 0
 ·rw [if_pos h]
  exact ⟨_, rfl, by omega, by omega, by omega⟩
 ·rw [if_neg h]
  obtain ⟨r, hr, h2, h3, h4⟩ := szPreparedS_l0 l hb (by omega) l.length (l.length + 1) 0 (a - (l.length : Int)) (by omega) (by omega) (by omega) (by omega)
  refine ⟨r, hr, fun h => ?_, h3, h4⟩
  have := h2 h
  rw [List.drop_zero] at this
  omega

/-! ### copies -/
theorem toInt_l0 (l : List Int) (hl : l.length ≤ 1000000000) (d : Nat) : ∀ (f i : Nat) (x : List Int), x.length = l.length → (∀ j, j < i → x[j]? = l[j]?) → i + d = l.length → d < f → laws_toIntS.l0 f l x (i : Int) = some l := by
 induction d with
 | zero =>
  intro f i x hx hj hi hf
  obtain ⟨f, rfl⟩ : ∃ m, f = m + 1 := ⟨f - 1, by omega⟩
  simp only [laws_toIntS.l0]
  rw [if_neg (by omega)]
  congr 1
  apply List.ext_getElem?
  intro j
  by_cases h : j < i
  ·exact hj j h
  ·rw [List.getElem?_eq_none (by omega), List.getElem?_eq_none (by omega)]
 | succ d ih =>
  intro f i x hx hj hi hf
  obtain ⟨f, rfl⟩ : ∃ m, f = m + 1 := ⟨f - 1, by omega⟩
  have hlt : i < l.length := by omega
  simp only [laws_toIntS.l0]
  rw [if_pos (by omega), if_pos (by omega), if_pos (by omega), rd_at l i hlt, wrap_id ((i : Int) + 1) (by omega) (by omega), show (i : Int) + 1 = ((i + 1 : Nat) : Int) from by omega, Int.toNat_natCast]
  refine ih f (i + 1) _ (by rw [List.length_set]; exact hx) (fun j hj2 => ?_) (by omega) (by omega)
  by_cases e : j = i
  ·subst e
   rw [List.getElem?_set_self (by omega), List.getElem?_eq_getElem hlt]
  ·rw [List.getElem?_set_ne (Ne.symm e)]
   exact hj j (by omega)
theorem toInt_f (l : List Int) (hl : l.length ≤ 1000000000) (k : Nat) (hk : l.length < k) : laws_toIntS.f k l = some l := by
 unfold laws_toIntS.f
 rw [if_pos (by omega), if_pos (by omega)]
 exact toInt_l0 l hl l.length k 0 _ (by simp) (by omega) (by omega) hk
def convP (x : S82) : S68 := ⟨x.f0, x.f1, x.f2⟩
theorem toPrep_f (a b : Int) (l : List Int) (hl : l.length ≤ 1000000000) (k : Nat) (hk : l.length < k) : laws_toPrepared.f k a b l = some (a, b, l) := by
 unfold laws_toPrepared.f
 rw [toInt_f l hl k hk]; rfl
theorem toPreparedS_l0 (l : List S82) (M : Nat) (hM : ∀ x ∈ l, x.f2.length ≤ M) (hM2 : M ≤ 1000000000) (hl : l.length ≤ 1000000000) (d : Nat) : ∀ (f i : Nat) (x : List S68), x.length = l.length → (∀ j, j < i → x[j]? = (l.map convP)[j]?) → i + d = l.length → d + M < f → laws_toPreparedS.l0 f l x (i : Int) = some (l.map convP) := by
 induction d with
 | zero =>
  intro f i x hx hj hi hf
  obtain ⟨f, rfl⟩ : ∃ m, f = m + 1 := ⟨f - 1, by omega⟩
  simp only [laws_toPreparedS.l0]
  rw [if_neg (by omega)]
  congr 1
  apply List.ext_getElem?
  intro j
  by_cases h : j < i
  ·exact hj j h
  ·rw [List.getElem?_eq_none (by omega), List.getElem?_eq_none (by rw [List.length_map]; omega)]
 | succ d ih =>
  intro f i x hx hj hi hf
  obtain ⟨f, rfl⟩ : ∃ m, f = m + 1 := ⟨f - 1, by omega⟩
  have hlt : i < l.length := by omega
  have hle := hM _ (List.getElem_mem hlt)
  simp only [laws_toPreparedS.l0]
  rw [if_pos (by omega), if_pos (by omega), rd82_at l i hlt, toPrep_f _ _ _ (by omega) f (by omega)]
  simp only [Option.bind_some]
  rw [if_pos (by omega), wrap_id ((i : Int) + 1) (by omega) (by omega), show (i : Int) + 1 = ((i + 1 : Nat) : Int) from by omega, Int.toNat_natCast]
  refine ih f (i + 1) _ (by rw [List.length_set]; exact hx) (fun j hj2 => ?_) (by omega) (by omega)
  by_cases e : j = i
  ·subst e
   rw [List.getElem?_set_self (by omega), List.getElem?_map, List.getElem?_eq_getElem hlt]; rfl
  ·rw [List.getElem?_set_ne (Ne.symm e)]
   exact hj j (by omega)
theorem toPreparedS_f (l : List S82) (M : Nat) (hM : ∀ x ∈ l, x.f2.length ≤ M) (hM2 : M ≤ 1000000000) (hl : l.length ≤ 1000000000) (k : Nat) (hk : l.length + M < k) : laws_toPreparedS.f k l = some (l.map convP) := by
 unfold laws_toPreparedS.f
 rw [if_pos (by omega), if_pos (by omega)]
 exact toPreparedS_l0 l M hM hM2 hl l.length k 0 _ (by simp) (by omega) (by omega) hk

/-! ### what is equal to itself -/
theorem eqInt_l0 (l : List Int) (hl : l.length ≤ 1000000000) (d : Nat) : ∀ (f i : Nat), i + d = l.length → d < f → laws_eqIntS.l0 f l l (i : Int) = some true := by
 induction d with
 | zero =>
  intro f i hi hf
  obtain ⟨f, rfl⟩ : ∃ m, f = m + 1 := ⟨f - 1, by omega⟩
  simp only [laws_eqIntS.l0]
  rw [if_neg (by omega)]
 | succ d ih =>
  intro f i hi hf
  obtain ⟨f, rfl⟩ : ∃ m, f = m + 1 := ⟨f - 1, by omega⟩
  simp only [laws_eqIntS.l0]
  rw [if_pos (by omega), if_pos (by omega), if_pos (by omega), if_pos trivial, wrap_id ((i : Int) + 1) (by omega) (by omega), show (i : Int) + 1 = ((i + 1 : Nat) : Int) from by omega]
  exact ih f (i + 1) (by omega) (by omega)
theorem eqInt_f (l : List Int) (hl : l.length ≤ 1000000000) (k : Nat) (hk : l.length < k) : laws_eqIntS.f k l l = some true := by
 unfold laws_eqIntS.f
 rw [if_pos rfl]
 exact eqInt_l0 l hl l.length k 0 (by omega) hk
theorem eqPrep_f (a b : Int) (l : List Int) (hl : l.length ≤ 1000000000) (k : Nat) (hk : l.length < k) : laws_eqPrepared.f k a b l a b l = some true := by
 unfold laws_eqPrepared.f
 rw [eqInt_f l hl k hk]; simp
theorem eqPreparedS_l0 (l : List S68) (M : Nat) (hM : ∀ x ∈ l, x.f2.length ≤ M) (hM2 : M ≤ 1000000000) (hl : l.length ≤ 1000000000) (d : Nat) : ∀ (f i : Nat), i + d = l.length → d + M < f → laws_eqPreparedS.l0 f l l (i : Int) = some true := by
 induction d with
 | zero =>
  intro f i hi hf
  obtain ⟨f, rfl⟩ : ∃ m, f = m + 1 := ⟨f - 1, by omega⟩
  simp only [laws_eqPreparedS.l0]
  rw [if_neg (by omega)]
 | succ d ih =>
  intro f i hi hf
  obtain ⟨f, rfl⟩ : ∃ m, f = m + 1 := ⟨f - 1, by omega⟩
  have hlt : i < l.length := by omega
  have hle := hM _ (List.getElem_mem hlt)
  simp only [laws_eqPreparedS.l0]
  rw [if_pos (by omega), if_pos (by omega), if_pos (by omega), rd68_at l i hlt, eqPrep_f _ _ _ (by omega) f (by omega)]
  simp only [Option.bind_some, if_true]
  rw [wrap_id ((i : Int) + 1) (by omega) (by omega), show (i : Int) + 1 = ((i + 1 : Nat) : Int) from by omega]
  exact ih f (i + 1) (by omega) (by omega)
theorem eqPreparedS_f (l : List S68) (M : Nat) (hM : ∀ x ∈ l, x.f2.length ≤ M) (hM2 : M ≤ 1000000000) (hl : l.length ≤ 1000000000) (k : Nat) (hk : l.length + M < k) : laws_eqPreparedS.f k l l = some true := by
 unfold laws_eqPreparedS.f
 rw [if_pos rfl]
 exact eqPreparedS_l0 l M hM hM2 hl l.length k 0 (by omega) hk

/-! ### marks -/
theorem mkInts_get (a : Int) (l : List Int) (i : Nat) (h : i < l.length) : (mkInts a l)[i]? = some (a + i) := by
 induction l generalizing a i with
 | nil => simp at h
 | cons x l ih =>
  cases i with
  | zero => simp [mkInts]
  | succ i =>
   simp only [mkInts, List.getElem?_cons_succ]
   rw [ih (a + 1) i (by simpa using h)]
   congr 1
   omega
theorem heldInt_l0 (l : List Int) (a : Int) (h0 : 0 ≤ a) (ha : a + l.length ≤ 1000000000) (d : Nat) : ∀ (f i : Nat), i + d = l.length → d < f → laws_heldIntS.l0 f (mkInts a l) (a + i) (i : Int) = some (a + l.length) := by
 induction d with
 | zero =>
  intro f i hi hf
  obtain ⟨f, rfl⟩ : ∃ m, f = m + 1 := ⟨f - 1, by omega⟩
  simp only [laws_heldIntS.l0]
  rw [if_neg (by rw [mkInts_length]; omega)]
  have : i = l.length := by omega
  subst this
  rfl
 | succ d ih =>
  intro f i hi hf
  obtain ⟨f, rfl⟩ : ∃ m, f = m + 1 := ⟨f - 1, by omega⟩
  simp only [laws_heldIntS.l0]
  have hg : rd (mkInts a l) (i : Int) = a + i := by
   show (mkInts a l).getD i 0 = _
   rw [List.getD_eq_getElem?_getD, mkInts_get a l i (by omega)]; rfl
  rw [if_pos (by rw [mkInts_length]; omega), if_pos (by omega), if_pos hg, wrap_id ((i : Int) + 1) (by omega) (by omega), wrap_id (a + (i : Int) + 1) (by omega) (by omega)]
  have := ih f (i + 1) (by omega) (by omega)
  rw [show ((i + 1 : Nat) : Int) = (i : Int) + 1 from by omega, ← Int.add_assoc] at this
  exact this
theorem heldInt_f (l : List Int) (a : Int) (h0 : 0 ≤ a) (ha : a + l.length ≤ 1000000000) (k : Nat) (hk : l.length < k) : laws_heldIntS.f k (mkInts a l) a = some (a + l.length) := by
 have := heldInt_l0 l a h0 ha l.length k 0 (by omega) hk
 simpa [laws_heldIntS.f] using this
theorem heldPreparedS_l0 (L : List S68) (N : Nat) (hN : N ≤ 1000000000) (hL : L.length ≤ 1000000000) : ∀ (l : List S68) (f i : Nat) (a : Int), 0 ≤ a → a + pcount l ≤ N → i + l.length = L.length → L.drop i = mkP a l → l.length + N < f → laws_heldPreparedS.l0 f L a (i : Int) = some (a + pcount l) := by
 intro l
 induction l with
 | nil =>
  intro f i a h0 ha hi hd hf
  obtain ⟨f, rfl⟩ : ∃ m, f = m + 1 := ⟨f - 1, by omega⟩
  simp only [laws_heldPreparedS.l0]
  simp only [List.length_nil] at hi
  rw [if_neg (by omega)]
  simp [pcount]
 | cons p l ih =>
  intro f i a h0 ha hi hd hf
  obtain ⟨f, rfl⟩ : ∃ m, f = m + 1 := ⟨f - 1, by simp only [List.length_cons] at hf; omega⟩
  simp only [List.length_cons] at hi hf
  rw [pcount_cons] at ha ⊢
  have hlt : i < L.length := by omega
  rw [drop_at L i hlt] at hd
  simp only [mkP, List.cons.injEq] at hd
  obtain ⟨hp, hd⟩ := hd
  simp only [laws_heldPreparedS.l0]
  rw [if_pos (by omega), if_pos (by omega), rd68_at L i hlt, hp, if_pos rfl, wrap_id (a + 1) (by omega) (by omega), if_pos rfl, wrap_id (a + 1 + 1) (by omega) (by omega), heldInt_f p.f2 (a + 1 + 1) (by omega) (by omega) f (by omega)]
  simp only [Option.bind_some]
  rw [if_neg (by omega), wrap_id ((i : Int) + 1) (by omega) (by omega), show (i : Int) + 1 = ((i + 1 : Nat) : Int) from by omega]
  have e : a + 1 + 1 + (p.f2.length : Int) = a + ((p.f2.length + 2 : Nat) : Int) := by omega
  rw [e, ih f (i + 1) (a + ((p.f2.length + 2 : Nat) : Int)) (by omega) (by omega) (by omega) hd (by omega)]
  congr 1
  omega
theorem heldPreparedS_f (l : List S68) (a : Int) (h0 : 0 ≤ a) (ha : a + pcount l ≤ 1000000000) (hl : l.length ≤ 1000000000) (k : Nat) (hk : l.length + 1000000000 < k) : laws_heldPreparedS.f k (mkP a l) a = some (a + pcount l) := by
 unfold laws_heldPreparedS.f
 exact heldPreparedS_l0 (mkP a l) 1000000000 (by omega) (by rw [mkP_length]; omega) l k 0 a h0 (by omega) (by rw [mkP_length]; omega) rfl hk

/-! ### sinks -/
structure SI where
 src : List Int
 at_ : Int
 pend : List Int
 stored : List S82
 out : List Int
 last : Int
 upto : Int
def convK (s : SI) : SK := ⟨s.src, s.at_, s.pend, s.stored.map convP, s.out, s.last, s.upto⟩
/-- The cells that a sink's rows have, and their elements'. -/
def tot (s : SK) : Nat := s.src.length + s.pend.length + pcount s.stored + s.out.length
theorem pcount_conv (l : List S82) : pcount (l.map convP) = klen l + 2 * l.length := by
 induction l with
 | nil => rfl
 | cons y l ih =>
  have e : klen (y :: l) = y.f2.length + klen l := by simp only [klen, List.map_cons, List.sum_cons]
  rw [List.map_cons, pcount_cons, e, ih, List.length_cons]
  show y.f2.length + 2 + _ = _
  omega
theorem pcount_mem (l : List S68) (x : S68) (h : x ∈ l) : x.f2.length + 2 ≤ pcount l := by
 induction l with
 | nil => simp at h
 | cons y l ih =>
  rw [pcount_cons]
  rcases List.mem_cons.1 h with rfl | h
  ·omega
  ·have := ih h; omega
theorem pcount_len (l : List S68) : 2 * l.length ≤ pcount l := by
 induction l with
 | nil => simp [pcount]
 | cons y l ih => rw [pcount_cons, List.length_cons]; omega
theorem pcount_append (l : List S68) (p : S68) : pcount (l ++ [p]) = pcount l + (p.f2.length + 2) := by simp [pcount]
theorem tot_bnd {s : SK} (h : tot s ≤ 10000000) : Bnd s := by
 unfold tot at h
 have := pcount_len s.stored
 refine ⟨by omega, by omega, by omega, by omega, fun p hp => ?_⟩
 have := pcount_mem _ _ hp
 omega
theorem tot_step {s s' : SK} {kind : Int} (hs : stepK s kind = some s') : tot s' ≤ tot s + 2 := by
 unfold stepK at hs
 split at hs
 ·split at hs
  ·cases hs
  ·injection hs with hs; subst hs
   simp [tot]; omega
 ·split at hs
  ·split at hs
   ·cases hs
   ·injection hs with hs; subst hs
    simp only [tot, pcount_append, List.length_nil]; omega
  ·split at hs
   ·split at hs
    ·cases hs
    ·rename_i p r hst
     injection hs with hs; subst hs
     simp only [tot, hst, pcount_cons, List.length_append]; omega
   ·split at hs
    ·injection hs with hs; subst hs
     simp only [tot, crashK, List.length_nil]; omega
    ·split at hs
     ·split at hs
      ·cases hs
      ·injection hs with hs; subst hs
       have := pcount_le s.stored (s.stored.length - 1)
       simp only [tot, crashK, List.length_nil]; omega
     ·cases hs
theorem tot_top (s : SK) (kind : Int) : tot ((stepTopK s kind).getD zeroK) ≤ tot s + 2 := by
 unfold stepTopK
 split
 ·cases h : stepK s kind with
  | none => simp [tot, zeroK, pcount]
  | some s' => exact tot_step h
 ·simp [tot, zeroK, pcount]
theorem szSink_f (s : SI) (h0 : s.src.length ≤ 9223372036854775807) (h2 : s.pend.length ≤ 9223372036854775807) (h3 : s.stored.length ≤ 9223372036854775807) (hb : ∀ x ∈ s.stored, x.f2.length ≤ 9223372036854775807) (h4 : s.out.length ≤ 9223372036854775807) :
  ∃ r, laws_szSink.f (s.stored.length + 1) s.src s.at_ s.pend s.stored s.out s.last s.upto 1048576 = some r ∧ (0 ≤ r → tot (convK s) ≤ 2097152) := by
 unfold laws_szSink.f
 obtain ⟨r1, e1, a1, b1, c1⟩ := szInt_f s.src 1048576 (by omega) (by omega) h0
 rw [e1]
 simp only [Option.bind_some]
 split
 ·exact ⟨_, rfl, by omega⟩
 ·obtain ⟨r2, e2, a2, b2, c2⟩ := szInt_f s.pend r1 (by omega) (by omega) h2
  rw [e2]
  simp only [Option.bind_some]
  split
  ·exact ⟨_, rfl, by omega⟩
  ·obtain ⟨r3, e3, a3, b3, c3⟩ := szPreparedS_f s.stored r2 (by omega) (by omega) hb h3
   rw [e3]
   simp only [Option.bind_some]
   split
   ·exact ⟨_, rfl, by omega⟩
   ·obtain ⟨r4, e4, a4, b4, c4⟩ := szInt_f s.out r3 (by omega) (by omega) h4
    rw [e4]
    simp only [Option.bind_some]
    split
    ·exact ⟨_, rfl, by omega⟩
    ·refine ⟨_, rfl, fun _ => ?_⟩
     simp only [tot, convK, pcount_conv]
     omega
theorem toSink_f (s : SI) (h : tot (convK s) ≤ 10000000) (k : Nat) (hk : 100000000 ≤ k) : laws_toSink.f k s.src s.at_ s.pend s.stored s.out s.last s.upto = some ((convK s).src, (convK s).at_, (convK s).pend, (convK s).stored, (convK s).out, (convK s).last, (convK s).upto) := by
 have hb := tot_bnd h
 simp only [tot, convK] at h
 have hl := pcount_len (s.stored.map convP)
 rw [List.length_map] at hl
 unfold laws_toSink.f
 rw [toInt_f s.src (by omega) k (by omega), toInt_f s.pend (by omega) k (by omega), toInt_f s.out (by omega) k (by omega), toPreparedS_f s.stored 10000000 (fun x hx => by
  have := pcount_mem _ _ (List.mem_map_of_mem (f := convP) hx)
  have e : (convP x).f2.length = x.f2.length := rfl
  omega) (by omega) (by omega) k (by omega)]
 rfl
theorem eqSink_f (s : SK) (h : tot s ≤ 10000000) (k : Nat) (hk : 100000000 ≤ k) : laws_eqSink.f k s.src s.at_ s.pend s.stored s.out s.last s.upto s.src s.at_ s.pend s.stored s.out s.last s.upto = some true := by
 unfold laws_eqSink.f
 unfold tot at h
 have hl := pcount_len s.stored
 rw [eqInt_f s.src (by omega) k (by omega), eqInt_f s.pend (by omega) k (by omega), eqInt_f s.out (by omega) k (by omega), eqPreparedS_f s.stored 10000000 (fun x hx => by have := pcount_mem _ _ hx; omega) (by omega) (by omega) k (by omega)]
 simp
/-- A sink whose cells are marked from a on. -/
def mkK (a : Int) (s : SK) : SK := { s with src := mkInts a s.src, pend := mkInts (a + s.src.length) s.pend, stored := mkP (a + s.src.length + s.pend.length) s.stored, out := mkInts (a + s.src.length + s.pend.length + pcount s.stored) s.out }
theorem heldSink_f (s : SK) (h : tot s ≤ 10000000) (k : Nat) (hk : 2000000000 ≤ k) : laws_heldSink.f k (mkK 1 s).src (mkK 1 s).at_ (mkK 1 s).pend (mkK 1 s).stored (mkK 1 s).out (mkK 1 s).last (mkK 1 s).upto 1 = some (1 + (tot s : Int)) := by
 unfold laws_heldSink.f mkK
 unfold tot at h ⊢
 have hl := pcount_len s.stored
 simp only
 rw [heldInt_f s.src 1 (by omega) (by omega) k (by omega)]
 simp only [Option.bind_some]
 rw [if_neg (by omega), heldInt_f s.pend _ (by omega) (by omega) k (by omega)]
 simp only [Option.bind_some]
 rw [if_neg (by omega), heldPreparedS_f s.stored _ (by omega) (by omega) (by omega) k (by omega)]
 simp only [Option.bind_some]
 rw [if_neg (by omega), heldInt_f s.out _ (by omega) (by omega) k (by omega)]
 simp only [Option.bind_some]
 rw [if_neg (by omega)]
 congr 1
 omega
end Go.Proofs.Ytjndadjhhknggaa.Q
end
section
/- The mark on a sink whose rows are the call's own. -/
namespace Go.Proofs.Ytjndadjhhknggaa.Q
open Go.RowKit Go.Proofs.YtjndadjhhknggaaW.PrintWords Go.Proofs.YtjndadjhhknggaaW.PrintLast
set_option linter.unusedVariables false
set_option linter.unusedSimpArgs false

theorem kx68_in (W : World) (b : Nat) (o : Nat → Prop) (x : S68) (cs : List Value) (h : kx68.M W b o x cs) : kx68.X W o x cs := by
 obtain ⟨c0, c1, rfl, h0, c2, c3, rfl, h2, v, rfl, hr⟩ := h
 obtain rfl : c0 = [.int .i64 x.f0] := h0
 obtain rfl : c2 = [.int .i64 x.f1] := h2
 exact ⟨[.int .i64 x.f0], [.int .i64 x.f1, v], rfl, fun _ => false, rfl, ⟨[.int .i64 x.f1], [v], rfl, fun _ => false, rfl, ⟨v, rfl, KX.Row_mono (fun k hk => ⟨⟨hk, rfl⟩, rfl⟩) (KX.Row_of_R (d := KX.int) (fun _ _ _ _ _ _ h => h) hr)⟩⟩⟩
theorem Row_readsC {α : Type} {d : KX α} {e : Nat} {w : World} {B : Nat → Prop} {A : Option Addr} {n c : Nat} {xs : List α} (h : KX.Row d e w B (.slice A n c) xs) : d.toKd.C w A xs.length xs ∧ xs.length ≤ c := by
 obtain ⟨A', c', hv, hc, hr⟩ := KX.Row_reads h
 injection hv with h1 h2 h3
 subst h1 h2 h3
 exact ⟨hr, hc⟩
/-- The blocks of a sink's rows, by colour. -/
def colB (base hi : Nat) (f : Nat → Nat) (c : Nat) (k : Nat) : Prop := (base ≤ k ∧ k < hi) ∧ f k = c
theorem OwnRows.toX {w : World} {base : Nat} {s : SK} {v0 v2 v3 v4 : Value} (h : OwnRows w base s v0 v2 v3 v4) :
  KX.int.Row 3 w (colB base w.heap.size (ownCol v0 v2 v4) 0) v0 s.src ∧ KX.int.Row 3 w (colB base w.heap.size (ownCol v0 v2 v4) 2) v2 s.pend ∧ kx68.Row 68 w (colB base w.heap.size (ownCol v0 v2 v4) 3) v3 s.stored ∧ KX.int.Row 3 w (colB base w.heap.size (ownCol v0 v2 v4) 4) v4 s.out := by
 have hf := h.toRows
 refine ⟨KX.Row_of_R (d := KX.int) (fun _ _ _ _ _ _ h => h) (Kd.R_mono (Kd.R_bound hf.r0) fun k hk => ⟨⟨hk.2.1, hk.2.2.1⟩, hk.1⟩), KX.Row_of_R (d := KX.int) (fun _ _ _ _ _ _ h => h) (Kd.R_mono (Kd.R_bound hf.r2) fun k hk => ⟨⟨hk.2.1, hk.2.2.1⟩, hk.1⟩), KX.Row_of_S (d := kx68) kx68_in (Kd.S_mono (Kd.S_bound h.r3) fun k hk => ⟨⟨hk.2.1, hk.2.2.1⟩, ?_⟩), KX.Row_of_R (d := KX.int) (fun _ _ _ _ _ _ h => h) (Kd.R_mono (Kd.R_bound hf.r4) fun k hk => ⟨⟨hk.2.1, hk.2.2.1⟩, hk.1⟩)⟩
 unfold ownCol
 rw [if_neg (fun e => hk.1.1 e.symm), if_neg (fun e => hk.1.2.1 e.symm), if_neg (fun e => hk.1.2.2 e.symm)]
/-- A sink's rows, each in blocks of its own between base and hi. -/
structure XRows (w : World) (base hi : Nat) (f : Nat → Nat) (s : SK) (v0 v2 v3 v4 : Value) : Prop where
 r0 : KX.int.Row 3 w (colB base hi f 0) v0 s.src
 r2 : KX.int.Row 3 w (colB base hi f 2) v2 s.pend
 r3 : kx68.Row 68 w (colB base hi f 3) v3 s.stored
 r4 : KX.int.Row 3 w (colB base hi f 4) v4 s.out
theorem OwnRows.toXRows {w : World} {base : Nat} {s : SK} {v0 v2 v3 v4 : Value} (h : OwnRows w base s v0 v2 v3 v4) : XRows w base w.heap.size (ownCol v0 v2 v4) s v0 v2 v3 v4 := ⟨h.toX.1, h.toX.2.1, h.toX.2.2.1, h.toX.2.2.2⟩
theorem XRows.move {w w' : World} {base hi : Nat} {f : Nat → Nat} {s : SK} {v0 v2 v3 v4 : Value} (h : XRows w base hi f s v0 v2 v3 v4) (hm : ∀ k, base ≤ k → k < hi → k < w.heap.size → w'.heap[k]? = w.heap[k]?) : XRows w' base hi f s v0 v2 v3 v4 :=
 ⟨KX.Row_move (fun k hk hl => hm k hk.1.1 hk.1.2 hl) h.r0, KX.Row_move (fun k hk hl => hm k hk.1.1 hk.1.2 hl) h.r2, KX.Row_move (fun k hk hl => hm k hk.1.1 hk.1.2 hl) h.r3, KX.Row_move (fun k hk hl => hm k hk.1.1 hk.1.2 hl) h.r4⟩
theorem XRows.below {w w' : World} {base hi : Nat} {f : Nat → Nat} {s : SK} {v0 v2 v3 v4 : Value} (h : XRows w base hi f s v0 v2 v3 v4) (hb : Below w.heap.size w w') : XRows w' base hi f s v0 v2 v3 v4 := h.move fun k _ _ hl => hb.block k hl
theorem XRows.toC {w : World} {base hi : Nat} {f : Nat → Nat} {s : SK} {A0 A2 A3 A4 : Option Addr} {n0 n2 n3 n4 c0 c2 c3 c4 : Nat} (h : XRows w base hi f s (.slice A0 n0 c0) (.slice A2 n2 c2) (.slice A3 n3 c3) (.slice A4 n4 c4)) : SinkC w s A0 A2 A3 A4 c0 c2 c3 c4 :=
 ⟨(Row_readsC h.r0).1, (Row_readsC h.r0).2, (Row_readsC h.r2).1, (Row_readsC h.r2).2, (Row_readsC h.r3).1, (Row_readsC h.r3).2, (Row_readsC h.r4).1, (Row_readsC h.r4).2⟩
theorem colB_ne {base hi : Nat} {f : Nat → Nat} {c c' k : Nat} (h : colB base hi f c k) (hc : c ≠ c') : ¬ colB base hi f c' k := fun h' => hc (h.2.symm.trans h'.2)
set_option maxHeartbeats 4000000 in
theorem markSink_calls (s : SK) (A0 A2 A3 A4 : Option Addr) (c0 c2 c3 c4 : Nat) (base hi : Nat) (f : Nat → Nat) (w : World) (h : XRows w base hi f s (.slice A0 s.src.length c0) (.slice A2 s.pend.length c2) (.slice A3 s.stored.length c3) (.slice A4 s.out.length c4)) (hhi : hi ≤ w.heap.size) (ht : tot s ≤ 10000000) :
  Calls Try.prog 24 #[.agg #[.slice A0 s.src.length c0, .int .i64 s.at_, .slice A2 s.pend.length c2, .slice A3 s.stored.length c3, .slice A4 s.out.length c4, .int .i64 s.last, .int .i64 s.upto], .int .i64 1] w fun e w' => e = .returned (.int .i64 (1 + (tot s : Int))) ∧ SinkC w' (mkK 1 s) A0 A2 A3 A4 c0 c2 c3 c4 ∧ Wrote (fun k => base ≤ k ∧ k < hi) w w' := by
 obtain ⟨hX0, hX2, hX3, hX4⟩ := h
 obtain ⟨hg, hb⟩ := make28 w s (.slice A0 s.src.length c0) (.slice A2 s.pend.length c2) (.slice A3 s.stored.length c3) (.slice A4 s.out.length c4)
 have HHI := Aside0.mk hhi
 have H0 := Aside0.mk (KX.Row_below hX0 hb)
 have H2 := Aside0.mk (KX.Row_below hX2 hb)
 have H3 := Aside0.mk (KX.Row_below hX3 hb)
 have H4 := Aside0.mk (KX.Row_below hX4 hb)
 have HW := Aside0.mk (Wrote.of_below (B := fun k => base ≤ k ∧ k < hi) hb)
 have hu28 := Try.underlying28
 have hlen := pcount_len s.stored
 unfold tot at ht ⊢
 have HL := Aside0.mk (And.intro ht hlen)
 clear hX0 hX2 hX3 hX4 hb ht hlen hhi
 go_enter Try.func24, Try.ntmps24
 go_upto_region 1 with fail
 generalize hgw : w.heap.size = g at hg HHI ⊢
 generalize w.alloc (.cells #[.slice A0 s.src.length c0, .int .i64 s.at_, .slice A2 s.pend.length c2, .slice A3 s.stored.length c3, .slice A4 s.out.length c4, .int .i64 s.last, .int .i64 s.upto] 28) = W at hg H0 H2 H3 H4 HW ⊢
 have HG := Aside0.mk hg
 have HGW := Aside0.mk hgw
 clear hg hgw
 obtain ⟨g0, g1, g2, g3, g4, g5, g6⟩ := cells7_ HG.out
 have HC := Aside0.mk (markIntS_X _ s.src 1 _ _ H0.out (by omega) (by have := HL.out; omega))
 go_wp2_with fail
 go_at_call 23; refine HC.out.mono ?_; rintro e w1 ⟨rfl, hr, hw⟩
 clear g0 g1 g2 g3 g4 g5 g6 H0 HC
 have H0 := Aside0.mk hr
 have n_ := Aside0.mk ((hw.block g (blk_lt HG.out) (fun hk => Nat.lt_irrefl _ (Nat.lt_of_lt_of_le hk.1.2 HHI.out))).trans HG.out); clear HG; have HG := n_; clear n_
 have n_ := Aside0.mk (KX.Row_move (fun k hk hlt => hw.block k hlt (colB_ne hk (by decide))) H2.out); clear H2; have H2 := n_; clear n_
 have n_ := Aside0.mk (KX.Row_move (fun k hk hlt => hw.block k hlt (colB_ne hk (by decide))) H3.out); clear H3; have H3 := n_; clear n_
 have n_ := Aside0.mk (KX.Row_move (fun k hk hlt => hw.block k hlt (colB_ne hk (by decide))) H4.out); clear H4; have H4 := n_; clear n_
 have n_ := Aside0.mk (HW.out.trans (hw.mono fun k hk _ => hk.1)); clear HW; have HW := n_; clear n_ hr hw
 obtain ⟨g0, g1, g2, g3, g4, g5, g6⟩ := cells7_ HG.out
 have HC := Aside0.mk (markIntS_X _ s.pend (1 + s.src.length) _ _ H2.out (by omega) (by have := HL.out; omega))
 go_wp2_with fail
 go_at_call 23; refine HC.out.mono ?_; rintro e w2 ⟨rfl, hr, hw⟩
 clear g0 g1 g2 g3 g4 g5 g6 H2 HC
 have H2 := Aside0.mk hr
 have n_ := Aside0.mk ((hw.block g (blk_lt HG.out) (fun hk => Nat.lt_irrefl _ (Nat.lt_of_lt_of_le hk.1.2 HHI.out))).trans HG.out); clear HG; have HG := n_; clear n_
 have n_ := Aside0.mk (KX.Row_move (fun k hk hlt => hw.block k hlt (colB_ne hk (by decide))) H0.out); clear H0; have H0 := n_; clear n_
 have n_ := Aside0.mk (KX.Row_move (fun k hk hlt => hw.block k hlt (colB_ne hk (by decide))) H3.out); clear H3; have H3 := n_; clear n_
 have n_ := Aside0.mk (KX.Row_move (fun k hk hlt => hw.block k hlt (colB_ne hk (by decide))) H4.out); clear H4; have H4 := n_; clear n_
 have n_ := Aside0.mk (HW.out.trans (hw.mono fun k hk _ => hk.1)); clear HW; have HW := n_; clear n_ hr hw
 obtain ⟨g0, g1, g2, g3, g4, g5, g6⟩ := cells7_ HG.out
 have HC := Aside0.mk (markPreparedS_X _ s.stored (1 + s.src.length + s.pend.length) _ _ H3.out (by omega) (by have := HL.out; omega) (by have := HL.out; omega))
 go_wp2_with fail
 go_at_call 52; refine HC.out.mono ?_; rintro e w3 ⟨rfl, hr, hw⟩
 clear g0 g1 g2 g3 g4 g5 g6 H3 HC
 have H3 := Aside0.mk hr
 have n_ := Aside0.mk ((hw.block g (blk_lt HG.out) (fun hk => Nat.lt_irrefl _ (Nat.lt_of_lt_of_le hk.1.2 HHI.out))).trans HG.out); clear HG; have HG := n_; clear n_
 have n_ := Aside0.mk (KX.Row_move (fun k hk hlt => hw.block k hlt (colB_ne hk (by decide))) H0.out); clear H0; have H0 := n_; clear n_
 have n_ := Aside0.mk (KX.Row_move (fun k hk hlt => hw.block k hlt (colB_ne hk (by decide))) H2.out); clear H2; have H2 := n_; clear n_
 have n_ := Aside0.mk (KX.Row_move (fun k hk hlt => hw.block k hlt (colB_ne hk (by decide))) H4.out); clear H4; have H4 := n_; clear n_
 have n_ := Aside0.mk (HW.out.trans (hw.mono fun k hk _ => hk.1)); clear HW; have HW := n_; clear n_ hr hw
 obtain ⟨g0, g1, g2, g3, g4, g5, g6⟩ := cells7_ HG.out
 have HC := Aside0.mk (markIntS_X _ s.out (1 + s.src.length + s.pend.length + pcount s.stored) _ _ H4.out (by omega) (by have := HL.out; omega))
 go_wp2_with fail
 go_at_call 23; refine HC.out.mono ?_; rintro e w4 ⟨rfl, hr, hw⟩
 clear g0 g1 g2 g3 g4 g5 g6 H4 HC
 have H4 := Aside0.mk hr
 have n_ := Aside0.mk (KX.Row_move (fun k hk hlt => hw.block k hlt (colB_ne hk (by decide))) H0.out); clear H0; have H0 := n_; clear n_
 have n_ := Aside0.mk (KX.Row_move (fun k hk hlt => hw.block k hlt (colB_ne hk (by decide))) H2.out); clear H2; have H2 := n_; clear n_
 have n_ := Aside0.mk (KX.Row_move (fun k hk hlt => hw.block k hlt (colB_ne hk (by decide))) H3.out); clear H3; have H3 := n_; clear n_
 have n_ := Aside0.mk (HW.out.trans (hw.mono fun k hk _ => hk.1)); clear HW; have HW := n_; clear n_ hr hw
 go_wp2_with fail
 go_ret
 have e_ : (1 + (s.src.length : Int) + s.pend.length + pcount s.stored + s.out.length) = 1 + ((s.src.length + s.pend.length + pcount s.stored + s.out.length : Nat) : Int) := by omega
 refine ⟨by rw [e_]; rfl, ⟨(Row_readsC H0.out).1, (Row_readsC H0.out).2, (Row_readsC H2.out).1, (Row_readsC H2.out).2, (Row_readsC H3.out).1, (Row_readsC H3.out).2, (Row_readsC H4.out).1, (Row_readsC H4.out).2⟩, ?_⟩
 exact HW.out
end Go.Proofs.Ytjndadjhhknggaa.Q
end
section
/- Sinks in memory as a law holds them: read, the call's own, marked. -/
namespace Go.Proofs.Ytjndadjhhknggaa.Q
open Go.RowKit Go.Proofs.YtjndadjhhknggaaW.PrintWords Go.Proofs.YtjndadjhhknggaaW.PrintLast
set_option linter.unusedVariables false
set_option linter.unusedSimpArgs false

/-- A sink in memory, that is read. -/
def SBox (g : Nat) (s : SK) (W : World) : Prop := ∃ A0 A2 A3 A4 c0 c2 c3 c4, SinkBlk g W s (.slice A0 s.src.length c0) (.slice A2 s.pend.length c2) (.slice A3 s.stored.length c3) (.slice A4 s.out.length c4) ∧ SinkC W s A0 A2 A3 A4 c0 c2 c3 c4
theorem SBox.below {g : Nat} {s : SK} {W W' : World} (h : SBox g s W) (hb : Below W.heap.size W W') : SBox g s W' := by
 obtain ⟨A0, A2, A3, A4, c0, c2, c3, c4, h0, h1⟩ := h
 exact ⟨A0, A2, A3, A4, c0, c2, c3, c4, h0.below hb, h1.below hb⟩
/-- A sink in memory whose rows are the call's own, made between base and hi. -/
def SOwn (g base hi : Nat) (s : SK) (W : World) : Prop := ∃ A0 A2 A3 A4 c0 c2 c3 c4 f, SinkBlk g W s (.slice A0 s.src.length c0) (.slice A2 s.pend.length c2) (.slice A3 s.stored.length c3) (.slice A4 s.out.length c4) ∧ XRows W base hi f s (.slice A0 s.src.length c0) (.slice A2 s.pend.length c2) (.slice A3 s.stored.length c3) (.slice A4 s.out.length c4)
theorem SOwn.below {g base hi : Nat} {s : SK} {W W' : World} (h : SOwn g base hi s W) (hb : Below W.heap.size W W') : SOwn g base hi s W' := by
 obtain ⟨A0, A2, A3, A4, c0, c2, c3, c4, f, h0, h1⟩ := h
 exact ⟨A0, A2, A3, A4, c0, c2, c3, c4, f, h0.below hb, h1.below hb⟩
theorem SOwn.toBox {g base hi : Nat} {s : SK} {W : World} (h : SOwn g base hi s W) : SBox g s W := by
 obtain ⟨A0, A2, A3, A4, c0, c2, c3, c4, f, h0, h1⟩ := h
 exact ⟨A0, A2, A3, A4, c0, c2, c3, c4, h0, h1.toC⟩
/-- A mark on blocks below leaves it. -/
theorem SOwn.wrote {g base hi lo hi' : Nat} {s : SK} {W W' : World} (h : SOwn g base hi s W) (hw : Wrote (fun k => lo ≤ k ∧ k < hi') W W') (h1 : hi' ≤ base) (h2 : hi' ≤ g) : SOwn g base hi s W' := by
 obtain ⟨A0, A2, A3, A4, c0, c2, c3, c4, f, h0, r⟩ := h
 exact ⟨A0, A2, A3, A4, c0, c2, c3, c4, f, (hw.block g h0.lt (fun hk => by omega)).trans h0, r.move fun k hk _ hl => hw.block k hl (fun hk' => by omega)⟩
/-- A sink just made, of rows just made. -/
theorem SOwn.make {w : World} {s : SK} {A0 A2 A3 A4 : Option Addr} {c0 c2 c3 c4 : Nat} {base : Nat} (h : OwnRows w base s (.slice A0 s.src.length c0) (.slice A2 s.pend.length c2) (.slice A3 s.stored.length c3) (.slice A4 s.out.length c4)) : SOwn w.heap.size base w.heap.size s (w.alloc (.cells #[.slice A0 s.src.length c0, .int .i64 s.at_, .slice A2 s.pend.length c2, .slice A3 s.stored.length c3, .slice A4 s.out.length c4, .int .i64 s.last, .int .i64 s.upto] 28)) := by
 obtain ⟨hg, hb⟩ := make28 w s (.slice A0 s.src.length c0) (.slice A2 s.pend.length c2) (.slice A3 s.stored.length c3) (.slice A4 s.out.length c4)
 exact ⟨A0, A2, A3, A4, c0, c2, c3, c4, _, hg, h.toXRows.below hb⟩
/-- The law's comparison: two that are equal. -/
theorem eq_sbox {g g' : Nat} {s : SK} {W : World} (h : SBox g s W) (h' : SBox g' s W) (hl : tot s ≤ 10000000) :
  ∃ A0 A2 A3 A4 c0 c2 c3 c4 B0 B2 B3 B4 d0 d2 d3 d4, SinkBlk g W s (.slice A0 s.src.length c0) (.slice A2 s.pend.length c2) (.slice A3 s.stored.length c3) (.slice A4 s.out.length c4) ∧ SinkBlk g' W s (.slice B0 s.src.length d0) (.slice B2 s.pend.length d2) (.slice B3 s.stored.length d3) (.slice B4 s.out.length d4) ∧
   Calls Try.prog 20 #[.agg #[.slice A0 s.src.length c0, .int .i64 s.at_, .slice A2 s.pend.length c2, .slice A3 s.stored.length c3, .slice A4 s.out.length c4, .int .i64 s.last, .int .i64 s.upto], .agg #[.slice B0 s.src.length d0, .int .i64 s.at_, .slice B2 s.pend.length d2, .slice B3 s.stored.length d3, .slice B4 s.out.length d4, .int .i64 s.last, .int .i64 s.upto]] W fun e w' => e = .returned (.bool true) ∧ Below W.heap.size W w' := by
 obtain ⟨A0, A2, A3, A4, c0, c2, c3, c4, h0, h1⟩ := h
 obtain ⟨B0, B2, B3, B4, d0, d2, d3, d4, k0, k1⟩ := h'
 exact ⟨A0, A2, A3, A4, c0, c2, c3, c4, B0, B2, B3, B4, d0, d2, d3, d4, h0, k0, laws_eqSink.calls 100000000 A0 c0 s.src s.at_ A2 c2 s.pend A3 c3 s.stored A4 c4 s.out s.last s.upto B0 d0 s.src s.at_ B2 d2 s.pend B3 d3 s.stored B4 d4 s.out s.last s.upto true W h1.r0 h1.l0 h1.r2 h1.l2 h1.r3 h1.l3 h1.r4 h1.l4 k1.r0 k1.l0 k1.r2 k1.l2 k1.r3 k1.l3 k1.r4 k1.l4 (eqSink_f s hl _ (Nat.le_refl _))⟩
theorem eq_sc {A0 A2 A3 A4 : Option Addr} {c0 c2 c3 c4 : Nat} {B0 B2 B3 B4 : Option Addr} {d0 d2 d3 d4 : Nat} {s : SK} {W : World} (h1 : SinkC W s A0 A2 A3 A4 c0 c2 c3 c4) (k1 : SinkC W s B0 B2 B3 B4 d0 d2 d3 d4) (hl : tot s ≤ 10000000) :
  Calls Try.prog 20 #[.agg #[.slice A0 s.src.length c0, .int .i64 s.at_, .slice A2 s.pend.length c2, .slice A3 s.stored.length c3, .slice A4 s.out.length c4, .int .i64 s.last, .int .i64 s.upto], .agg #[.slice B0 s.src.length d0, .int .i64 s.at_, .slice B2 s.pend.length d2, .slice B3 s.stored.length d3, .slice B4 s.out.length d4, .int .i64 s.last, .int .i64 s.upto]] W fun e w' => e = .returned (.bool true) ∧ Below W.heap.size W w' :=
 laws_eqSink.calls 100000000 A0 c0 s.src s.at_ A2 c2 s.pend A3 c3 s.stored A4 c4 s.out s.last s.upto B0 d0 s.src s.at_ B2 d2 s.pend B3 d3 s.stored B4 d4 s.out s.last s.upto true W h1.r0 h1.l0 h1.r2 h1.l2 h1.r3 h1.l3 h1.r4 h1.l4 k1.r0 k1.l0 k1.r2 k1.l2 k1.r3 k1.l3 k1.r4 k1.l4 (eqSink_f s hl _ (Nat.le_refl _))
theorem mkK_src (s : SK) : (mkK 1 s).src.length = s.src.length := by simp [mkK, mkInts_length]
theorem mkK_pend (s : SK) : (mkK 1 s).pend.length = s.pend.length := by simp [mkK, mkInts_length]
theorem mkK_stored (s : SK) : (mkK 1 s).stored.length = s.stored.length := by simp [mkK, mkP_length]
theorem mkK_out (s : SK) : (mkK 1 s).out.length = s.out.length := by simp [mkK, mkInts_length]
/-- The law's mark. -/
theorem mark_sown {g base hi : Nat} {s : SK} {W : World} (h : SOwn g base hi s W) (hg : hi ≤ g) (hl : tot s ≤ 10000000) {K : Int} (hK : K = 1 + (tot s : Int)) {M : SK} (hM : M = mkK 1 s) :
  ∃ A0 A2 A3 A4 c0 c2 c3 c4, SinkBlk g W s (.slice A0 s.src.length c0) (.slice A2 s.pend.length c2) (.slice A3 s.stored.length c3) (.slice A4 s.out.length c4) ∧ Calls Try.prog 24 #[.agg #[.slice A0 s.src.length c0, .int .i64 s.at_, .slice A2 s.pend.length c2, .slice A3 s.stored.length c3, .slice A4 s.out.length c4, .int .i64 s.last, .int .i64 s.upto], .int .i64 1] W fun e w' => e = .returned (.int .i64 K) ∧ SBox g M w' ∧ Wrote (fun k => base ≤ k ∧ k < hi) W w' := by
 obtain ⟨A0, A2, A3, A4, c0, c2, c3, c4, f, h0, r⟩ := h
 subst hK hM
 have hlt := h0.lt
 refine ⟨A0, A2, A3, A4, c0, c2, c3, c4, h0, (markSink_calls s A0 A2 A3 A4 c0 c2 c3 c4 base hi f W r (by omega) hl).mono ?_⟩
 rintro e w' ⟨rfl, hc, hw⟩
 refine ⟨rfl, ⟨A0, A2, A3, A4, c0, c2, c3, c4, ?_, hc⟩, hw⟩
 have := (hw.block g hlt (fun hk => by omega)).trans h0
 unfold SinkBlk
 rw [mkK_src, mkK_pend, mkK_stored, mkK_out]
 exact this
/-- The law's look at the marks. -/
theorem held_sbox {g : Nat} {s : SK} {W : World} {M : SK} (hM : M = mkK 1 s) (h : SBox g M W) (hl : tot s ≤ 10000000) {K : Int} (hK : K = 1 + (tot s : Int)) :
  ∃ A0 A2 A3 A4 c0 c2 c3 c4, SinkBlk g W M (.slice A0 M.src.length c0) (.slice A2 M.pend.length c2) (.slice A3 M.stored.length c3) (.slice A4 M.out.length c4) ∧ Calls Try.prog 26 #[.agg #[.slice A0 M.src.length c0, .int .i64 M.at_, .slice A2 M.pend.length c2, .slice A3 M.stored.length c3, .slice A4 M.out.length c4, .int .i64 M.last, .int .i64 M.upto], .int .i64 1] W fun e w' => e = .returned (.int .i64 K) ∧ Below W.heap.size W w' := by
 obtain ⟨A0, A2, A3, A4, c0, c2, c3, c4, h0, h1⟩ := h
 subst hK
 refine ⟨A0, A2, A3, A4, c0, c2, c3, c4, h0, ?_⟩
 exact laws_heldSink.calls 2000000000 A0 c0 M.src M.at_ A2 c2 M.pend A3 c3 M.stored A4 c4 M.out M.last M.upto 1 _ W h1.r0 h1.l0 h1.r2 h1.l2 h1.r3 h1.l3 h1.r4 h1.l4 (by subst hM; exact heldSink_f s hl _ (Nat.le_refl _))
/-- The law's copy. -/
theorem to_sink (s : SI) {A0 A2 A3 A4 : Option Addr} {c0 c2 c3 c4 : Nat} {W : World} (h0 : Kd.C (Kd.int .i64) W A0 s.src.length s.src) (l0 : s.src.length ≤ c0) (h2 : Kd.C (Kd.int .i64) W A2 s.pend.length s.pend) (l2 : s.pend.length ≤ c2) (h3 : Kd.C k82 W A3 s.stored.length s.stored) (l3 : s.stored.length ≤ c3) (h4 : Kd.C (Kd.int .i64) W A4 s.out.length s.out) (l4 : s.out.length ≤ c4) (ht : tot (convK s) ≤ 10000000) :
  Calls Try.prog 35 #[.agg #[.slice A0 s.src.length c0, .int .i64 s.at_, .slice A2 s.pend.length c2, .slice A3 s.stored.length c3, .slice A4 s.out.length c4, .int .i64 s.last, .int .i64 s.upto]] W fun e w' => ∃ B0 B2 B3 B4 d0 d2 d3 d4, e = .returned (.agg #[.slice B0 (convK s).src.length d0, .int .i64 (convK s).at_, .slice B2 (convK s).pend.length d2, .slice B3 (convK s).stored.length d3, .slice B4 (convK s).out.length d4, .int .i64 (convK s).last, .int .i64 (convK s).upto]) ∧ OwnRows w' W.heap.size (convK s) (.slice B0 (convK s).src.length d0) (.slice B2 (convK s).pend.length d2) (.slice B3 (convK s).stored.length d3) (.slice B4 (convK s).out.length d4) ∧ Below W.heap.size W w' := by
 refine (laws_toSink.calls 100000000 A0 c0 s.src s.at_ A2 c2 s.pend A3 c3 s.stored A4 c4 s.out s.last s.upto _ _ _ _ _ _ _ W h0 l0 h2 l2 h3 l3 h4 l4 (toSink_f s ht _ (Nat.le_refl _))).mono ?_
 rintro e w' ⟨v0, v2, v3, v4, rfl, r0, r2, r3, r4, hb⟩
 have hr : OwnRows w' W.heap.size (convK s) v0 v2 v3 v4 := ⟨r0, r2, r3, r4⟩
 obtain ⟨B0, d0, B2, d2, B3, d3, B4, d4, rfl, rfl, rfl, rfl⟩ := hr.slices
 exact ⟨B0, B2, B3, B4, d0, d2, d3, d4, rfl, hr, hb⟩
/-- A top's answer, its slices in sight. -/
theorem TopRet.open_ {w w' : World} {e : Ending} {o : Option SK} (h : TopRet w w' e o) : ∃ B0 B2 B3 B4 d0 d2 d3 d4, e = .returned (.tuple #[.agg #[.slice B0 (o.getD zeroK).src.length d0, .int .i64 (o.getD zeroK).at_, .slice B2 (o.getD zeroK).pend.length d2, .slice B3 (o.getD zeroK).stored.length d3, .slice B4 (o.getD zeroK).out.length d4, .int .i64 (o.getD zeroK).last, .int .i64 (o.getD zeroK).upto], .bool o.isSome]) ∧ OwnRows w' w.heap.size (o.getD zeroK) (.slice B0 (o.getD zeroK).src.length d0) (.slice B2 (o.getD zeroK).pend.length d2) (.slice B3 (o.getD zeroK).stored.length d3) (.slice B4 (o.getD zeroK).out.length d4) ∧ Below w.heap.size w w' := by
 obtain ⟨v0, v2, v3, v4, rfl, hr, hb⟩ := h
 obtain ⟨B0, d0, B2, d2, B3, d3, B4, d4, rfl, rfl, rfl, rfl⟩ := hr.slices
 exact ⟨B0, B2, B3, B4, d0, d2, d3, d4, rfl, hr, hb⟩
end Go.Proofs.Ytjndadjhhknggaa.Q
end
section
/- FnExactStepSink's own walk: on every sink and every kind it answers true, and leaves all that was there as it was. -/
namespace Go.Proofs.Ytjndadjhhknggaa.Q
open Go.RowKit Go.Proofs.YtjndadjhhknggaaW.PrintWords Go.Proofs.YtjndadjhhknggaaW.PrintLast
set_option linter.unusedVariables false
set_option linter.unusedSimpArgs false
def T6_10 : Bool × List (List Nat × List Nat) := (true, [([], []), ([], []), ([1], [1]), ([0, 2, 2], [0, 2]), ([3], [3])])
def B6_10 : List Nat := [0, 0, 2, 7, 15]
theorem tab6_10 : rtab .any (opsOf Try.f6 10) = T6_10 := by kernel_rfl
theorem bits6_10 : waitsOk T6_10.2 B6_10 = true := by kernel_rfl

theorem C_rows82 {w : World} {A : Option Addr} {l : List S82} (h : Kd.C k82 w A l.length l) : ∀ x ∈ l, x.f2.length ≤ 9223372036854775807 := fun x hx => by
 obtain ⟨i, hi, rfl⟩ := List.mem_iff_getElem.1 hx
 obtain ⟨ad, cs, _, _, hK, _⟩ := Kd.C_get h z82 (i : Int) (by omega) (by omega)
 have e : l.getD ((i : Int)).toNat z82 = l[i] := by rw [Int.toNat_natCast, List.getD_eq_getElem?_getD, List.getElem?_eq_getElem hi]; rfl
 rw [e] at hK
 obtain ⟨A2, c2, _, _, h2⟩ := k82_open hK
 exact h2.2.1
theorem cells7t {w : World} {g t : Nat} {u0 u1 u2 u3 u4 u5 u6 : Value} (h : w.heap[g]? = some (.cells #[u0, u1, u2, u3, u4, u5, u6] t (0, 0))) :
  w.cell? ⟨g, 0, none⟩ = some u0 ∧ w.cell? ⟨g, 1, none⟩ = some u1 ∧ w.cell? ⟨g, 2, none⟩ = some u2 ∧ w.cell? ⟨g, 3, none⟩ = some u3 ∧ w.cell? ⟨g, 4, none⟩ = some u4 ∧ w.cell? ⟨g, 5, none⟩ = some u5 ∧ w.cell? ⟨g, 6, none⟩ = some u6 := cells7_ h
set_option maxHeartbeats 16000000 in
set_option maxRecDepth 100000 in
theorem law_stepsink (s : SI) (kind : Int) (A0 A2 A3 A4 : Option Addr) (c0 c2 c3 c4 : Nat) (w : World) (h0 : Kd.C (Kd.int .i64) w A0 s.src.length s.src) (l0 : s.src.length ≤ c0) (h2 : Kd.C (Kd.int .i64) w A2 s.pend.length s.pend) (l2 : s.pend.length ≤ c2) (h3 : Kd.C k82 w A3 s.stored.length s.stored) (l3 : s.stored.length ≤ c3) (h4 : Kd.C (Kd.int .i64) w A4 s.out.length s.out) (l4 : s.out.length ≤ c4) :
  Calls Try.prog 6 #[.agg #[.slice A0 s.src.length c0, .int .i64 s.at_, .slice A2 s.pend.length c2, .slice A3 s.stored.length c3, .slice A4 s.out.length c4, .int .i64 s.last, .int .i64 s.upto], .int .i64 kind] w fun e w' => e = .returned (.bool true) ∧ Below w.heap.size w w' := by
 have hb_ : Below w.heap.size w (w.alloc (.cells #[.slice A0 s.src.length c0, .int .i64 s.at_, .slice A2 s.pend.length c2, .slice A3 s.stored.length c3, .slice A4 s.out.length c4, .int .i64 s.last, .int .i64 s.upto] 53)) := below_alloc (Below.refl _ w) _
 have hg_ := blk_new w (.cells #[.slice A0 s.src.length c0, .int .i64 s.at_, .slice A2 s.pend.length c2, .slice A3 s.stored.length c3, .slice A4 s.out.length c4, .int .i64 s.last, .int .i64 s.upto] 53)
 have HB0 := Aside0.mk hb_
 have HIN := Aside0.mk (show (Kd.C (Kd.int .i64) (w.alloc (.cells #[.slice A0 s.src.length c0, .int .i64 s.at_, .slice A2 s.pend.length c2, .slice A3 s.stored.length c3, .slice A4 s.out.length c4, .int .i64 s.last, .int .i64 s.upto] 53)) A0 s.src.length s.src ∧ Kd.C (Kd.int .i64) (w.alloc (.cells #[.slice A0 s.src.length c0, .int .i64 s.at_, .slice A2 s.pend.length c2, .slice A3 s.stored.length c3, .slice A4 s.out.length c4, .int .i64 s.last, .int .i64 s.upto] 53)) A2 s.pend.length s.pend ∧ Kd.C k82 (w.alloc (.cells #[.slice A0 s.src.length c0, .int .i64 s.at_, .slice A2 s.pend.length c2, .slice A3 s.stored.length c3, .slice A4 s.out.length c4, .int .i64 s.last, .int .i64 s.upto] 53)) A3 s.stored.length s.stored ∧ Kd.C (Kd.int .i64) (w.alloc (.cells #[.slice A0 s.src.length c0, .int .i64 s.at_, .slice A2 s.pend.length c2, .slice A3 s.stored.length c3, .slice A4 s.out.length c4, .int .i64 s.last, .int .i64 s.upto] 53)) A4 s.out.length s.out) from ⟨Kd.C_below h0 hb_, Kd.C_below h2 hb_, Kd.C_below h3 hb_, Kd.C_below h4 hb_⟩)
 have HCAP := Aside0.mk (And.intro l0 (And.intro l2 (And.intro l3 l4)))
 have HSM := Aside0.mk (show s.src.length ≤ 9223372036854775807 ∧ s.pend.length ≤ 9223372036854775807 ∧ s.stored.length ≤ 9223372036854775807 ∧ (∀ x ∈ s.stored, x.f2.length ≤ 9223372036854775807) ∧ s.out.length ≤ 9223372036854775807 from ⟨h0.2.1, h2.2.1, h3.2.1, C_rows82 h3, h4.2.1⟩)
 have hu53 := Try.underlying53
 have hu28 := Try.underlying28
 clear h0 l0 h2 l2 h3 l3 h4 l4 hb_
 go_enter Try.func6, Try.ntmps6
 go_upto_region 1 with fail
 obtain ⟨p0, hp0⟩ : ∃ p0, p0 = w.heap.size := ⟨_, rfl⟩
 rw [← hp0] at hg_ ⊢
 generalize w.alloc (.cells #[.slice A0 s.src.length c0, .int .i64 s.at_, .slice A2 s.pend.length c2, .slice A3 s.stored.length c3, .slice A4 s.out.length c4, .int .i64 s.last, .int .i64 s.upto] 53) = W1 at hg_ HB0 HIN ⊢
 have HP0 := Aside0.mk hg_
 clear hp0 hg_
 have HB1 : Aside0 (Below W1.heap.size W1 W1) := ⟨Below.refl _ _⟩
 obtain ⟨r, hr_, htot⟩ := szSink_f s HSM.out.1 HSM.out.2.1 HSM.out.2.2.1 HSM.out.2.2.2.1 HSM.out.2.2.2.2
 have HSZ := Aside0.mk (laws_szSink.calls (s.stored.length + 1) A0 c0 s.src s.at_ A2 c2 s.pend A3 c3 s.stored A4 c4 s.out s.last s.upto 1048576 r W1 HIN.out.1 HCAP.out.1 HIN.out.2.1 HCAP.out.2.1 HIN.out.2.2.1 HCAP.out.2.2.1 HIN.out.2.2.2 HCAP.out.2.2.2 hr_)
 have HTT := Aside0.mk htot
 clear htot hr_
 obtain ⟨x0, x1, x2, x3, x4, x5, x6⟩ := cells7t (blk_below HP0.out HB1.out)
 go_wp2_with fail
 go_at_call 34; refine HSZ.out.mono ?_; rintro e w2 ⟨rfl, hb_⟩
 clear x0 x1 x2 x3 x4 x5 x6
 have n_ := Aside0.mk (below_then HB1.out HB1.out.size hb_); clear HB1; have HB1 := n_; clear n_
 clear hb_ HSZ
 by_cases hneg : r < 0
 ·go_wp2_with fail
  go_ret
  exact ⟨rfl, below_then HB0.out HB0.out.size HB1.out⟩
 have ht_ : tot (convK s) ≤ 2097152 := HTT.out (by omega)
 have HTO : Aside0 (∀ W, Below W1.heap.size W1 W → Calls Try.prog 35 #[.agg #[.slice A0 s.src.length c0, .int .i64 s.at_, .slice A2 s.pend.length c2, .slice A3 s.stored.length c3, .slice A4 s.out.length c4, .int .i64 s.last, .int .i64 s.upto]] W fun e w' => ∃ B0 B2 B3 B4 d0 d2 d3 d4, e = .returned (.agg #[.slice B0 (convK s).src.length d0, .int .i64 (convK s).at_, .slice B2 (convK s).pend.length d2, .slice B3 (convK s).stored.length d3, .slice B4 (convK s).out.length d4, .int .i64 (convK s).last, .int .i64 (convK s).upto]) ∧ OwnRows w' W.heap.size (convK s) (.slice B0 (convK s).src.length d0) (.slice B2 (convK s).pend.length d2) (.slice B3 (convK s).stored.length d3) (.slice B4 (convK s).out.length d4) ∧ Below W.heap.size W w') := ⟨fun W hb => to_sink s (Kd.C_below HIN.out.1 hb) HCAP.out.1 (Kd.C_below HIN.out.2.1 hb) HCAP.out.2.1 (Kd.C_below HIN.out.2.2.1 hb) HCAP.out.2.2.1 (Kd.C_below HIN.out.2.2.2 hb) HCAP.out.2.2.2 (by omega)⟩
 generalize convK s = Ks at HTO ht_ HTT
 clear HTT
 have hot := tot_top Ks kind
 have HSPEC : Aside0 (∀ (W : World) (B0 B2 B3 B4 : Option Addr) (d0 d2 d3 d4 : Nat), SinkC W Ks B0 B2 B3 B4 d0 d2 d3 d4 → Calls Try.prog 30 #[.agg #[.slice B0 Ks.src.length d0, .int .i64 Ks.at_, .slice B2 Ks.pend.length d2, .slice B3 Ks.stored.length d3, .slice B4 Ks.out.length d4, .int .i64 Ks.last, .int .i64 Ks.upto], .int .i64 kind] W fun e w' => ∃ D0 D2 D3 D4 k0 k2 k3 k4, e = .returned (.tuple #[.agg #[.slice D0 ((stepTopK Ks kind).getD zeroK).src.length k0, .int .i64 ((stepTopK Ks kind).getD zeroK).at_, .slice D2 ((stepTopK Ks kind).getD zeroK).pend.length k2, .slice D3 ((stepTopK Ks kind).getD zeroK).stored.length k3, .slice D4 ((stepTopK Ks kind).getD zeroK).out.length k4, .int .i64 ((stepTopK Ks kind).getD zeroK).last, .int .i64 ((stepTopK Ks kind).getD zeroK).upto], .bool (stepTopK Ks kind).isSome]) ∧ OwnRows w' W.heap.size ((stepTopK Ks kind).getD zeroK) (.slice D0 ((stepTopK Ks kind).getD zeroK).src.length k0) (.slice D2 ((stepTopK Ks kind).getD zeroK).pend.length k2) (.slice D3 ((stepTopK Ks kind).getD zeroK).stored.length k3) (.slice D4 ((stepTopK Ks kind).getD zeroK).out.length k4) ∧ Below W.heap.size W w') := ⟨fun W B0 B2 B3 B4 d0 d2 d3 d4 h => (specStepSink_calls Ks kind B0 B2 B3 B4 d0 d2 d3 d4 W h (tot_bnd (by omega))).mono fun e w' h => h.open_⟩
 have HIMPL : Aside0 (∀ (W : World) (B0 B2 B3 B4 : Option Addr) (d0 d2 d3 d4 : Nat), SinkC W Ks B0 B2 B3 B4 d0 d2 d3 d4 → Calls Try.prog 29 #[.agg #[.slice B0 Ks.src.length d0, .int .i64 Ks.at_, .slice B2 Ks.pend.length d2, .slice B3 Ks.stored.length d3, .slice B4 Ks.out.length d4, .int .i64 Ks.last, .int .i64 Ks.upto], .int .i64 kind] W fun e w' => ∃ D0 D2 D3 D4 k0 k2 k3 k4, e = .returned (.tuple #[.agg #[.slice D0 ((stepTopK Ks kind).getD zeroK).src.length k0, .int .i64 ((stepTopK Ks kind).getD zeroK).at_, .slice D2 ((stepTopK Ks kind).getD zeroK).pend.length k2, .slice D3 ((stepTopK Ks kind).getD zeroK).stored.length k3, .slice D4 ((stepTopK Ks kind).getD zeroK).out.length k4, .int .i64 ((stepTopK Ks kind).getD zeroK).last, .int .i64 ((stepTopK Ks kind).getD zeroK).upto], .bool (stepTopK Ks kind).isSome]) ∧ OwnRows w' W.heap.size ((stepTopK Ks kind).getD zeroK) (.slice D0 ((stepTopK Ks kind).getD zeroK).src.length k0) (.slice D2 ((stepTopK Ks kind).getD zeroK).pend.length k2) (.slice D3 ((stepTopK Ks kind).getD zeroK).stored.length k3) (.slice D4 ((stepTopK Ks kind).getD zeroK).out.length k4) ∧ Below W.heap.size W w') := ⟨fun W B0 B2 B3 B4 d0 d2 d3 d4 h => (implStepSink_calls Ks kind B0 B2 B3 B4 d0 d2 d3 d4 W h (tot_bnd (by omega))).mono fun e w' h => h.open_⟩
 generalize (stepTopK Ks kind).getD zeroK = R at HSPEC HIMPL hot
 generalize (stepTopK Ks kind).isSome = ok at HSPEC HIMPL
 have HTK := Aside0.mk (show tot Ks ≤ 10000000 by omega)
 have HTR := Aside0.mk (show tot R ≤ 10000000 by omega)
 obtain ⟨K1, hK1⟩ : ∃ K1 : Int, K1 = 1 + (tot Ks : Int) := ⟨_, rfl⟩
 obtain ⟨K2, hK2⟩ : ∃ K2 : Int, K2 = 1 + (tot R : Int) := ⟨_, rfl⟩
 obtain ⟨M, hM⟩ : ∃ M, M = mkK 1 R := ⟨_, rfl⟩
 have hk1 : 0 ≤ K1 := by omega
 have hk2 : 0 ≤ K2 := by omega
 have HKS := Aside0.mk (And.intro hK1 (And.intro hK2 hM))
 clear hK1 hK2 hM ht_ hot
 obtain ⟨x0, x1, x2, x3, x4, x5, x6⟩ := cells7t (blk_below HP0.out HB1.out)
 go_wp2_with fail
 go_at_call 35; refine (HTO.out _ HB1.out).mono ?_; rintro e wa ⟨B0, B2, B3, B4, d0, d2, d3, d4, rfl, hr, hb_⟩
 clear x0 x1 x2 x3 x4 x5 x6
 have n_ := Aside0.mk (below_then HB1.out HB1.out.size hb_); clear HB1; have HB1 := n_; clear n_
 have HC := Aside0.mk (HSPEC.out _ B0 B2 B3 B4 d0 d2 d3 d4 hr.toXRows.toC)
 clear hr hb_
 go_wp2_with fail
 go_at_call 30; refine HC.out.mono ?_; rintro e wb ⟨D0, D2, D3, D4, k0, k2, k3, k4, rfl, hr, hb_⟩
 have n_ := Aside0.mk (below_then HB1.out HB1.out.size hb_); clear HB1; have HB1 := n_; clear n_
 clear hb_ HC
 go_upto_region 6 with fail
 clear hneg
 have hb_ := (make28 wb R (.slice D0 R.src.length k0) (.slice D2 R.pend.length k2) (.slice D3 R.stored.length k3) (.slice D4 R.out.length k4)).2
 have HW6 := Aside0.mk (SOwn.make hr).toBox
 clear hr
 have n_ := Aside0.mk (below_then HB1.out HB1.out.size hb_); clear HB1; have HB1 := n_; clear n_
 clear hb_
 obtain ⟨p6, hp6⟩ : ∃ p6, p6 = wb.heap.size := ⟨_, rfl⟩
 rw [← hp6] at HW6 ⊢
 generalize wb.alloc (.cells #[.slice D0 R.src.length k0, .int .i64 R.at_, .slice D2 R.pend.length k2, .slice D3 R.stored.length k3, .slice D4 R.out.length k4, .int .i64 R.last, .int .i64 R.upto] 28) = wc at HW6 HB1 ⊢
 clear hp6
 have HB12 := Aside0.mk HB1.out
 have HB2 : Aside0 (Below wc.heap.size wc wc) := ⟨Below.refl _ _⟩
 obtain ⟨x0, x1, x2, x3, x4, x5, x6⟩ := cells7t (blk_below HP0.out HB1.out)
 go_wp2_with fail
 go_at_call 35; refine (HTO.out _ HB1.out).mono ?_; rintro e wd ⟨B0, B2, B3, B4, d0, d2, d3, d4, rfl, hr, hb_⟩
 clear x0 x1 x2 x3 x4 x5 x6
 have n_ := Aside0.mk (below_then HB1.out HB1.out.size hb_); clear HB1; have HB1 := n_; clear n_
 have n_ := Aside0.mk (below_then HB2.out HB2.out.size hb_); clear HB2; have HB2 := n_; clear n_
 go_upto_region 7 with fail
 have hb2_ := (make28 wd Ks (.slice B0 Ks.src.length d0) (.slice B2 Ks.pend.length d2) (.slice B3 Ks.stored.length d3) (.slice B4 Ks.out.length d4)).2
 have H8 := Aside0.mk (SOwn.make hr)
 have hs8 := hb_.size
 clear hr hb_
 have n_ := Aside0.mk (below_then HB1.out HB1.out.size hb2_); clear HB1; have HB1 := n_; clear n_
 have n_ := Aside0.mk (below_then HB2.out HB2.out.size hb2_); clear HB2; have HB2 := n_; clear n_
 clear hb2_
 have hsz_ : (wd.alloc (.cells #[.slice B0 Ks.src.length d0, .int .i64 Ks.at_, .slice B2 Ks.pend.length d2, .slice B3 Ks.stored.length d3, .slice B4 Ks.out.length d4, .int .i64 Ks.last, .int .i64 Ks.upto] 28)).heap.size = wd.heap.size + 1 := by simp
 obtain ⟨p8, hp8⟩ : ∃ p8, p8 = wd.heap.size := ⟨_, rfl⟩
 rw [← hp8] at H8 hs8 hsz_ ⊢
 generalize wd.alloc (.cells #[.slice B0 Ks.src.length d0, .int .i64 Ks.at_, .slice B2 Ks.pend.length d2, .slice B3 Ks.stored.length d3, .slice B4 Ks.out.length d4, .int .i64 Ks.last, .int .i64 Ks.upto] 28) = W3 at H8 HB1 HB2 hsz_ ⊢
 clear hp8
 have HS8 := Aside0.mk (And.intro hs8 hsz_)
 clear hs8 hsz_
 obtain ⟨E0, E2, E3, E4, q0, q2, q3, q4, hk_, hc_⟩ := H8.out.toBox
 obtain ⟨z0, z1, z2, z3, z4, z5, z6⟩ := cells7_ hk_
 have HC := Aside0.mk (HIMPL.out _ E0 E2 E3 E4 q0 q2 q3 q4 hc_)
 clear hk_ hc_
 go_wp2_with fail
 go_at_call 29; refine HC.out.mono ?_; rintro e wu ⟨D0, D2, D3, D4, k0, k2, k3, k4, rfl, hr, hb_⟩
 clear z0 z1 z2 z3 z4 z5 z6
 have n_ := Aside0.mk (below_then HB1.out HB1.out.size hb_); clear HB1; have HB1 := n_; clear n_
 have n_ := Aside0.mk (below_then HB2.out HB2.out.size hb_); clear HB2; have HB2 := n_; clear n_
 have n_ := Aside0.mk (H8.out.below hb_); clear H8; have H8 := n_; clear n_
 clear HC
 go_upto_region 8 with fail
 have hb2_ := (make28 wu R (.slice D0 R.src.length k0) (.slice D2 R.pend.length k2) (.slice D3 R.stored.length k3) (.slice D4 R.out.length k4)).2
 have H9 := Aside0.mk (SOwn.make hr)
 have hs9 := hb_.size
 clear hr hb_
 have n_ := Aside0.mk (below_then HB1.out HB1.out.size hb2_); clear HB1; have HB1 := n_; clear n_
 have n_ := Aside0.mk (below_then HB2.out HB2.out.size hb2_); clear HB2; have HB2 := n_; clear n_
 have n_ := Aside0.mk (H8.out.below hb2_); clear H8; have H8 := n_; clear n_
 clear hb2_
 obtain ⟨p9, hp9⟩ : ∃ p9, p9 = wu.heap.size := ⟨_, rfl⟩
 rw [← hp9] at H9 hs9 ⊢
 rw [HS8.out.2] at H9 hs9
 generalize wu.alloc (.cells #[.slice D0 R.src.length k0, .int .i64 R.at_, .slice D2 R.pend.length k2, .slice D3 R.stored.length k3, .slice D4 R.out.length k4, .int .i64 R.last, .int .i64 R.upto] 28) = W4 at H9 H8 HB1 HB2 ⊢
 clear hp9
 have HS9 := Aside0.mk hs9
 clear hs9
 obtain ⟨E0, E2, E3, E4, q0, q2, q3, q4, F0, F2, F3, F4, l0, l2, l3, l4, hk_, hj_, he_⟩ := eq_sbox H9.out.toBox (HW6.out.below HB2.out) HTR.out
 obtain ⟨z0, z1, z2, z3, z4, z5, z6⟩ := cells7_ hk_
 obtain ⟨y0, y1, y2, y3, y4, y5, y6⟩ := cells7_ hj_
 have HE := Aside0.mk he_
 clear hk_ hj_ he_
 go_wp2_with fail
 go_at_call 20; refine HE.out.mono ?_; rintro e we ⟨rfl, hb_⟩
 clear z0 z1 z2 z3 z4 z5 z6
 clear y0 y1 y2 y3 y4 y5 y6
 have n_ := Aside0.mk (below_then HB1.out HB1.out.size hb_); clear HB1; have HB1 := n_; clear n_
 have n_ := Aside0.mk (below_then HB2.out HB2.out.size hb_); clear HB2; have HB2 := n_; clear n_
 have n_ := Aside0.mk (H8.out.below hb_); clear H8; have H8 := n_; clear n_
 have n_ := Aside0.mk (H9.out.below hb_); clear H9; have H9 := n_; clear n_
 clear hb_ HE
 go_upto_region 10 with fail
 have hdr_ : Below we.heap.size we we.drew := (Below.refl _ _).drew
 have n_ := Aside0.mk (below_then HB1.out HB1.out.size hdr_); clear HB1; have HB1 := n_; clear n_
 have n_ := Aside0.mk (below_then HB2.out HB2.out.size hdr_); clear HB2; have HB2 := n_; clear n_
 have n_ := Aside0.mk (H8.out.below hdr_); clear H8; have H8 := n_; clear n_
 have n_ := Aside0.mk (H9.out.below hdr_); clear H9; have H9 := n_; clear n_
 clear hdr_
 obtain ⟨E0, E2, E3, E4, q0, q2, q3, q4, hk_, hc_⟩ := H8.out.toBox
 have HY8 := Aside0.mk (show _ = _ from hk_)
 have HYC := Aside0.mk hc_
 clear hk_ hc_
 refine mS [] (S := fun w' => (w'.cell? ⟨p8, 0, none⟩ = some (.slice E0 Ks.src.length q0) ∧ w'.cell? ⟨p8, 1, none⟩ = some (.int .i64 Ks.at_) ∧ w'.cell? ⟨p8, 2, none⟩ = some (.slice E2 Ks.pend.length q2) ∧ w'.cell? ⟨p8, 3, none⟩ = some (.slice E3 Ks.stored.length q3) ∧ w'.cell? ⟨p8, 4, none⟩ = some (.slice E4 Ks.out.length q4) ∧ w'.cell? ⟨p8, 5, none⟩ = some (.int .i64 Ks.last) ∧ w'.cell? ⟨p8, 6, none⟩ = some (.int .i64 Ks.upto)) ∧ (w'.cell? ⟨p0, 0, none⟩ = some (.slice A0 s.src.length c0) ∧ w'.cell? ⟨p0, 1, none⟩ = some (.int .i64 s.at_) ∧ w'.cell? ⟨p0, 2, none⟩ = some (.slice A2 s.pend.length c2) ∧ w'.cell? ⟨p0, 3, none⟩ = some (.slice A3 s.stored.length c3) ∧ w'.cell? ⟨p0, 4, none⟩ = some (.slice A4 s.out.length c4) ∧ w'.cell? ⟨p0, 5, none⟩ = some (.int .i64 s.last) ∧ w'.cell? ⟨p0, 6, none⟩ = some (.int .i64 s.upto))) tab6_10 bits6_10 (by kernel_rfl) rfl ⟨cells7_ HY8.out, cells7t (blk_below HP0.out HB1.out)⟩ (fun hS_ HT_ HW_ => ?_)
 refine mL 0 0 1 (N := some 45) (v := ?_) (a' := ?_) HT_ HW_ rfl rfl (by kernel_rfl) (fun _ _ _ h => h) hS_ (by rfl) ?_ ?_ ?_; rotate_left 2; (rintro w' ⟨⟨s0, s1, s2, s3, s4, s5, s6⟩, t0, t1, t2, t3, t4, t5, t6⟩; go_simp; with_reducible rfl); (simp only [Act.put, sT, s0, s1, i64_w, i32_w]; rfl)
 refine mL 1 1 3 (N := some 46) (v := ?_) (a' := ?_) HT_ HW_ rfl rfl (by kernel_rfl) (fun _ _ _ h => h) hS_ (by rfl) ?_ ?_ ?_; rotate_left 2; (rintro w' ⟨⟨s0, s1, s2, s3, s4, s5, s6⟩, t0, t1, t2, t3, t4, t5, t6⟩; go_simp; with_reducible rfl); (simp only [Act.put, sT, s0, s1, i64_w, i32_w]; rfl)
 refine one_ (i := 2) (N := some 47) (lB 5 7) rfl rfl (one_of HT_.out (by kernel_rfl)) (by decide) (fun K hK => ?_)
 refine goes_ Try.func35 (by kernel_rfl) rfl #[.agg #[.slice A0 s.src.length c0, .int .i64 s.at_, .slice A2 s.pend.length c2, .slice A3 s.stored.length c3, .slice A4 s.out.length c4, .int .i64 s.last, .int .i64 s.upto]] (by rfl) rfl rfl (by (try simp only [List.map_toArray, List.map_cons, List.map_nil]); first | done | rfl) ?_
 refine (HTO.out _ HB1.out).mono ?_
 rintro e wf ⟨B0, B2, B3, B4, d0, d2, d3, d4, rfl, hr, hb_⟩
 refine ⟨_, rfl, ?_⟩
 have n_ := Aside0.mk (below_then HB1.out HB1.out.size hb_); clear HB1; have HB1 := n_; clear n_
 have n_ := Aside0.mk (below_then HB2.out HB2.out.size hb_); clear HB2; have HB2 := n_; clear n_
 have n_ := Aside0.mk (H8.out.below hb_); clear H8; have H8 := n_; clear n_
 have n_ := Aside0.mk (H9.out.below hb_); clear H9; have H9 := n_; clear n_
 have n_ := Aside0.mk (blk_below HY8.out hb_); clear HY8; have HY8 := n_; clear n_
 have n_ := Aside0.mk (HYC.out.below hb_); clear HYC; have HYC := n_; clear n_
 have HCH := Aside0.mk hr.toXRows.toC
 clear hr hb_
 refine hK.out _ _ ⟨cells7_ HY8.out, cells7t (blk_below HP0.out HB1.out)⟩ (fun hS_ => ?_)
 clear hK K
 refine norm_ (a' := ?_) ?_ ?_
 rotate_left
 (simp only [Act.put, sT, s0, s1, i64_w, i32_w]; rfl)
 refine one_ (i := 3) (N := some 48) (lB 5 15) rfl rfl (one_of HT_.out (by kernel_rfl)) (by decide) (fun K hK => ?_)
 refine goes_ Try.func20 (by kernel_rfl) rfl #[.agg #[.slice E0 Ks.src.length q0, .int .i64 Ks.at_, .slice E2 Ks.pend.length q2, .slice E3 Ks.stored.length q3, .slice E4 Ks.out.length q4, .int .i64 Ks.last, .int .i64 Ks.upto], .agg #[.slice B0 Ks.src.length d0, .int .i64 Ks.at_, .slice B2 Ks.pend.length d2, .slice B3 Ks.stored.length d3, .slice B4 Ks.out.length d4, .int .i64 Ks.last, .int .i64 Ks.upto]] (by rfl) rfl rfl (by (try simp only [List.map_toArray, List.map_cons, List.map_nil]); first | done | rfl) ?_
 refine (eq_sc HYC.out HCH.out HTK.out).mono ?_
 rintro e wg ⟨rfl, hb_⟩
 refine ⟨_, rfl, ?_⟩
 have n_ := Aside0.mk (below_then HB1.out HB1.out.size hb_); clear HB1; have HB1 := n_; clear n_
 have n_ := Aside0.mk (below_then HB2.out HB2.out.size hb_); clear HB2; have HB2 := n_; clear n_
 have n_ := Aside0.mk (H8.out.below hb_); clear H8; have H8 := n_; clear n_
 have n_ := Aside0.mk (H9.out.below hb_); clear H9; have H9 := n_; clear n_
 have n_ := Aside0.mk (blk_below HY8.out hb_); clear HY8; have HY8 := n_; clear n_
 have n_ := Aside0.mk (HYC.out.below hb_); clear HYC; have HYC := n_; clear n_
 clear hb_ HCH
 refine hK.out _ _ ⟨cells7_ HY8.out, cells7t (blk_below HP0.out HB1.out)⟩ (fun hS_ => ?_)
 clear hK K
 refine norm_ (a' := ?_) ?_ ?_
 rotate_left
 (simp only [Act.put, sT, s0, s1, i64_w, i32_w]; rfl)
 refine mL 4 15 31 (N := some 49) (v := ?_) (a' := ?_) HT_ HW_ rfl rfl (by kernel_rfl) (fun _ _ _ h => h) hS_ (by rfl) ?_ ?_ ?_; rotate_left 2; (rintro w' ⟨⟨s0, s1, s2, s3, s4, s5, s6⟩, t0, t1, t2, t3, t4, t5, t6⟩; go_simp; with_reducible rfl); (simp only [Act.put, sT, s0, s1, i64_w, i32_w]; rfl)
 refine mD HT_ (by kernel_rfl) ?_
 clear HY8 HYC hS_
 go_upto_region 13 with fail
 obtain ⟨E0, E2, E3, E4, q0, q2, q3, q4, hk_, hm_⟩ := mark_sown H8.out (Nat.le_refl _) HTK.out HKS.out.1 rfl
 obtain ⟨z0, z1, z2, z3, z4, z5, z6⟩ := cells7_ hk_
 have HC := Aside0.mk hm_
 clear hk_ hm_
 go_wp2_with fail
 go_at_call 24; refine HC.out.mono ?_; rintro e wh ⟨rfl, -, hw_⟩
 clear z0 z1 z2 z3 z4 z5 z6
 have n_ := Aside0.mk (Wrote.below HB2.out hw_ (fun k hk => hk.1) HB2.out.size); clear HB2; have HB2 := n_; clear n_
 have n_ := Aside0.mk (Wrote.below HB1.out hw_ (fun k hk => Nat.le_trans HB12.out.size hk.1) HB1.out.size); clear HB1; have HB1 := n_; clear n_
 have n_ := Aside0.mk (H9.out.wrote hw_ (Nat.le_succ _) (by have := HS9.out; omega)); clear H9; have H9 := n_; clear n_
 clear hw_ H8 HC
 go_upto_region 14 with fail
 obtain ⟨E0, E2, E3, E4, q0, q2, q3, q4, F0, F2, F3, F4, l0, l2, l3, l4, hk_, hj_, he_⟩ := eq_sbox H9.out.toBox (HW6.out.below HB2.out) HTR.out
 obtain ⟨z0, z1, z2, z3, z4, z5, z6⟩ := cells7_ hk_
 obtain ⟨y0, y1, y2, y3, y4, y5, y6⟩ := cells7_ hj_
 have HE := Aside0.mk he_
 clear hk_ hj_ he_
 go_wp2_with fail
 go_at_call 20; refine HE.out.mono ?_; rintro e wi ⟨rfl, hb_⟩
 clear z0 z1 z2 z3 z4 z5 z6
 clear y0 y1 y2 y3 y4 y5 y6
 have n_ := Aside0.mk (below_then HB1.out HB1.out.size hb_); clear HB1; have HB1 := n_; clear n_
 have n_ := Aside0.mk (below_then HB2.out HB2.out.size hb_); clear HB2; have HB2 := n_; clear n_
 have n_ := Aside0.mk (H9.out.below hb_); clear H9; have H9 := n_; clear n_
 clear hb_ HE
 go_upto_region 17 with fail
 obtain ⟨E0, E2, E3, E4, q0, q2, q3, q4, hk_, hm_⟩ := mark_sown H9.out (Nat.le_refl _) HTR.out HKS.out.2.1 HKS.out.2.2
 obtain ⟨z0, z1, z2, z3, z4, z5, z6⟩ := cells7_ hk_
 have HC := Aside0.mk hm_
 clear hk_ hm_
 go_wp2_with fail
 go_at_call 24; refine HC.out.mono ?_; rintro e wj ⟨rfl, hx_, hw_⟩
 clear z0 z1 z2 z3 z4 z5 z6
 have HM := Aside0.mk hx_
 have n_ := Aside0.mk (Wrote.below HB2.out hw_ (fun k hk => by have := HS8.out; omega) HB2.out.size); clear HB2; have HB2 := n_; clear n_
 clear HB1; have HB1 := Aside0.mk (below_then HB12.out HB12.out.size HB2.out)
 clear hw_ hx_ H9 HC
 go_upto_region 19 with fail
 obtain ⟨E0, E2, E3, E4, q0, q2, q3, q4, hk_, hm_⟩ := held_sbox HKS.out.2.2 HM.out HTR.out HKS.out.2.1
 obtain ⟨z0, z1, z2, z3, z4, z5, z6⟩ := cells7_ hk_
 have HC := Aside0.mk hm_
 clear hk_ hm_
 go_wp2_with fail
 go_at_call 26; refine HC.out.mono ?_; rintro e wk ⟨rfl, hb_⟩
 clear z0 z1 z2 z3 z4 z5 z6
 have n_ := Aside0.mk (below_then HB1.out HB1.out.size hb_); clear HB1; have HB1 := n_; clear n_
 have n_ := Aside0.mk (below_then HB2.out HB2.out.size hb_); clear HB2; have HB2 := n_; clear n_
 have n_ := Aside0.mk (HM.out.below hb_); clear HM; have HM := n_; clear n_
 clear hb_ HC
 go_upto_region 24 with fail
 obtain ⟨x0, x1, x2, x3, x4, x5, x6⟩ := cells7t (blk_below HP0.out HB1.out)
 go_wp2_with fail
 go_at_call 35; refine (HTO.out _ HB1.out).mono ?_; rintro e wl ⟨B0, B2, B3, B4, d0, d2, d3, d4, rfl, hr, hb_⟩
 clear x0 x1 x2 x3 x4 x5 x6
 have n_ := Aside0.mk (below_then HB1.out HB1.out.size hb_); clear HB1; have HB1 := n_; clear n_
 have n_ := Aside0.mk (below_then HB2.out HB2.out.size hb_); clear HB2; have HB2 := n_; clear n_
 have n_ := Aside0.mk (HM.out.below hb_); clear HM; have HM := n_; clear n_
 have HC := Aside0.mk (HIMPL.out _ B0 B2 B3 B4 d0 d2 d3 d4 hr.toXRows.toC)
 clear hr hb_
 go_wp2_with fail
 go_at_call 29; refine HC.out.mono ?_; rintro e wm ⟨D0, D2, D3, D4, k0, k2, k3, k4, rfl, hr, hb_⟩
 have n_ := Aside0.mk (below_then HB1.out HB1.out.size hb_); clear HB1; have HB1 := n_; clear n_
 have n_ := Aside0.mk (below_then HB2.out HB2.out.size hb_); clear HB2; have HB2 := n_; clear n_
 have n_ := Aside0.mk (HM.out.below hb_); clear HM; have HM := n_; clear n_
 clear hb_ HC
 go_upto_region 25 with fail
 have hb_ := (make28 wm R (.slice D0 R.src.length k0) (.slice D2 R.pend.length k2) (.slice D3 R.stored.length k3) (.slice D4 R.out.length k4)).2
 have H14 := Aside0.mk (SOwn.make hr).toBox
 clear hr
 have n_ := Aside0.mk (below_then HB1.out HB1.out.size hb_); clear HB1; have HB1 := n_; clear n_
 have n_ := Aside0.mk (below_then HB2.out HB2.out.size hb_); clear HB2; have HB2 := n_; clear n_
 have n_ := Aside0.mk (HM.out.below hb_); clear HM; have HM := n_; clear n_
 clear hb_
 obtain ⟨p14, hp14⟩ : ∃ p14, p14 = wm.heap.size := ⟨_, rfl⟩
 rw [← hp14] at H14 ⊢
 generalize wm.alloc (.cells #[.slice D0 R.src.length k0, .int .i64 R.at_, .slice D2 R.pend.length k2, .slice D3 R.stored.length k3, .slice D4 R.out.length k4, .int .i64 R.last, .int .i64 R.upto] 28) = wn at H14 HB1 HB2 HM ⊢
 clear hp14
 obtain ⟨E0, E2, E3, E4, q0, q2, q3, q4, F0, F2, F3, F4, l0, l2, l3, l4, hk_, hj_, he_⟩ := eq_sbox H14.out (HW6.out.below HB2.out) HTR.out
 obtain ⟨z0, z1, z2, z3, z4, z5, z6⟩ := cells7_ hk_
 obtain ⟨y0, y1, y2, y3, y4, y5, y6⟩ := cells7_ hj_
 have HE := Aside0.mk he_
 clear hk_ hj_ he_
 go_wp2_with fail
 go_at_call 20; refine HE.out.mono ?_; rintro e wo ⟨rfl, hb_⟩
 clear z0 z1 z2 z3 z4 z5 z6
 clear y0 y1 y2 y3 y4 y5 y6
 have n_ := Aside0.mk (below_then HB1.out HB1.out.size hb_); clear HB1; have HB1 := n_; clear n_
 have n_ := Aside0.mk (below_then HB2.out HB2.out.size hb_); clear HB2; have HB2 := n_; clear n_
 have n_ := Aside0.mk (HM.out.below hb_); clear HM; have HM := n_; clear n_
 clear hb_ HE
 go_upto_region 28 with fail
 obtain ⟨E0, E2, E3, E4, q0, q2, q3, q4, hk_, hm_⟩ := held_sbox HKS.out.2.2 HM.out HTR.out HKS.out.2.1
 obtain ⟨z0, z1, z2, z3, z4, z5, z6⟩ := cells7_ hk_
 have HC := Aside0.mk hm_
 clear hk_ hm_
 go_wp2_with fail
 go_at_call 26; refine HC.out.mono ?_; rintro e wp_ ⟨rfl, hb_⟩
 clear z0 z1 z2 z3 z4 z5 z6
 have n_ := Aside0.mk (below_then HB1.out HB1.out.size hb_); clear HB1; have HB1 := n_; clear n_
 have n_ := Aside0.mk (below_then HB2.out HB2.out.size hb_); clear HB2; have HB2 := n_; clear n_
 have n_ := Aside0.mk (HM.out.below hb_); clear HM; have HM := n_; clear n_
 clear hb_ HC
 go_wp2_with fail
 go_ret
 exact ⟨rfl, below_then HB0.out HB0.out.size HB1.out⟩
end Go.Proofs.Ytjndadjhhknggaa.Q
end
section
/- What an argument reads as, laid open as a plain value, by its type's shape. -/
namespace Go.Proofs.Ytjndadjhhknggaa.Q
open Go.RowKit Go.Proofs.YtjndadjhhknggaaW.PrintWords
set_option linter.unusedVariables false
set_option linter.unusedSimpArgs false

/-- Whatever reads as type t is a value of kind d. -/
def Opens {α : Type} (P : Program) (W : World) (t : TypeId) (d : Kd α) : Prop :=
 ∀ {H : Type} (enc : TypeId × Value → H) (base : Nat) (spare : Nat → Bool) (held : Bool) (fuel : Nat) (cs : List Value) (x : DataW H × List MemPlace), DataW.trod enc P W base spare held fuel t cs = some x → ∃ y, d.K W y cs
/-- .. a struct's fields, from cell o on. -/
def OpensF {α : Type} (P : Program) (W : World) (o : Nat) (fs : List Field) (d : Kd α) : Prop :=
 ∀ {H : Type} (enc : TypeId × Value → H) (base : Nat) (spare : Nat → Bool) (held : Bool) (n : Nat) (cs : List Value), cs.length = d.sz →
  (∀ (i : Nat) (f : Field), fs[i]? = some f → ∃ x, DataW.trod enc P W base spare held n f.type ((cs.drop (f.offset - o)).take (P.cellsOf f.type)) = some x) → ∃ y, d.K W y cs
namespace Opens
variable {α β : Type} {P : Program} {W : World} {t e : TypeId} {d : Kd α} {k : IntKind}
theorem int (ht : P.underlying t = some (.int k)) : Opens P W t (Kd.int k) := by
 intro H enc base spare held fuel cs x h
 obtain ⟨n, rfl, _, _⟩ := DataW.trod_int ht h
 exact ⟨n, rfl⟩
theorem last {o : Nat} {f : Field} (ho : f.offset = o) (hc : P.cellsOf f.type = d.sz) (h : Opens P W f.type d) : OpensF P W o [f] d := by
 intro H enc base spare held n cs hl hf
 obtain ⟨x, hx⟩ := hf 0 f rfl
 rw [ho, Nat.sub_self, List.drop_zero, hc, ← hl, List.take_length] at hx
 exact h enc base spare held n cs x hx
theorem cons {d1 : Kd β} {o : Nat} {f : Field} {fs : List Field} (ho : f.offset = o) (hc : P.cellsOf f.type = d.sz) (h : Opens P W f.type d) (hr : OpensF P W (o + d.sz) fs d1) (hle : fs.all (fun g => decide (o + d.sz ≤ g.offset)) = true) : OpensF P W o (f :: fs) (Kd.pair d d1) := by
 intro H enc base spare held n cs hl hf
 have hl' : cs.length = d.sz + d1.sz := hl
 obtain ⟨x, hx⟩ := hf 0 f rfl
 rw [ho, Nat.sub_self, List.drop_zero, hc] at hx
 obtain ⟨y, hy⟩ := h enc base spare held n _ x hx
 obtain ⟨z, hz⟩ := hr enc base spare held n (cs.drop d.sz) (by rw [List.length_drop, hl']; omega) (fun i g hg => by
  obtain ⟨x, hx⟩ := hf (i + 1) g (by simpa using hg)
  have hm := List.all_eq_true.1 hle g (List.mem_of_getElem? hg)
  have hm := of_decide_eq_true hm
  rw [List.drop_drop, show d.sz + (g.offset - (o + d.sz)) = g.offset - o from by omega]
  exact ⟨x, hx⟩)
 exact ⟨(y, z), cs.take d.sz, cs.drop d.sz, (List.take_append_drop _ _).symm, hy, hz⟩
theorem struct {fs : Array Field} {f : β → α} {g : α → β} (hfg : ∀ x, f (g x) = x) (ht : P.underlying t = some (.struct fs)) (hc : P.cellsOf t = d.sz) (h : OpensF P W 0 fs.toList d) : Opens P W t (Kd.iso d f) := by
 intro H enc base spare held fuel cs x hx
 obtain ⟨xs, n, _, _, hl, hxl, hf⟩ := DataW.trod_struct ht hx
 obtain ⟨y, hy⟩ := h enc base spare held n cs (by rw [hl, hc]) (fun i f0 hf0 => by
  have hi : i < fs.size := by
   rw [← Array.length_toList]
   exact (List.getElem?_eq_some_iff.1 hf0).1
  have h2 := hf i f0 (by rw [← Array.getElem?_toList]; exact hf0)
  rw [List.getElem?_eq_getElem (by omega)] at h2
  exact ⟨_, by rw [Nat.sub_zero]; exact h2⟩)
 exact ⟨g y, by show d.K W (f (g y)) cs; rw [hfg]; exact hy⟩
theorem choose_list {R : Nat → α → Prop} : ∀ (n : Nat), (∀ i, i < n → ∃ y, R i y) → ∃ ys : List α, ys.length = n ∧ ∀ i y, ys[i]? = some y → R i y
 | 0, _ => ⟨[], rfl, by simp⟩
 | n + 1, h => by
  obtain ⟨ys, hl, hy⟩ := choose_list n (fun i hi => h i (by omega))
  obtain ⟨z, hz⟩ := h n (by omega)
  refine ⟨ys ++ [z], by simp [hl], fun i y hiy => ?_⟩
  by_cases hi : i < n
  ·rw [List.getElem?_append_left (by omega)] at hiy
   exact hy i y hiy
  ·have hi2 : i < n + 1 := by have := (List.getElem?_eq_some_iff.1 hiy).1; simp [hl] at this; omega
   have : i = n := by omega
   subst this
   rw [List.getElem?_append_right (by omega), hl, Nat.sub_self] at hiy
   obtain rfl : z = y := by simpa using hiy
   exact hz
/-- A slice's value and what it reads as. -/
theorem row (ht : P.underlying t = some (.slice e)) (hc : P.cellsOf e = d.sz) (he : Opens P W e d) {H : Type} {enc : TypeId × Value → H} {base : Nat} {spare : Nat → Bool} {held : Bool} {fuel : Nat} {cs : List Value} {x : DataW H × List MemPlace} (h : DataW.trod enc P W base spare held fuel t cs = some x) :
  ∃ (A : Option Addr) (c : Nat) (ys : List α), cs = [.slice A ys.length c] ∧ ys.length ≤ c ∧ c ≤ maxLen ∧ d.C W A ys.length ys := by
 rcases Go.Deep.open_slice ht h with ⟨rfl, _⟩ | ⟨a, len, cap, m, n, D, Pl, rfl, hb, hl, hm, hmm, rfl, hx⟩
 ·exact ⟨none, 0, [], rfl, Nat.le_refl _, Nat.zero_le _, rfl, by simp, fun h => absurd h (by simp)⟩
 ·have hlm : len ≤ m := by rw [hmm]; split <;> omega
  obtain ⟨ys, hyl, hys⟩ := choose_list (R := fun i y => ∃ c : List Value, c.length = d.sz ∧ d.K W y c ∧ ∀ j u, c[j]? = some u → W.cell? (a.add (i * d.sz + j)) = some u) len (fun i hi => by
   obtain ⟨cs', h1, h2⟩ := hx i (by omega)
   obtain ⟨_, hlen, hcell⟩ := World.cells?_some h1
   obtain ⟨y, hy⟩ := he enc base spare held n cs' _ h2
   refine ⟨y, cs', by rw [hlen, hc], hy, fun j u hu => ?_⟩
   have hj := (List.getElem?_eq_some_iff.1 hu).1
   have h3 := hcell j (by omega)
   rw [Go.Deep.add_add, hc] at h3
   rw [h3, hu])
  subst hyl
  refine ⟨some a, cap, ys, rfl, hl, hm, rfl, by simp only [maxLen] at hm; omega, fun _ => ⟨a, rfl, fun j p hj => hys j p hj⟩⟩
theorem slice (ht : P.underlying t = some (.slice e)) (hc : P.cellsOf e = d.sz) (he : Opens P W e d) : Opens P W t (Kd.slice e d) := by
 intro H enc base spare held fuel cs x h
 obtain ⟨A, c, ys, rfl, hl, _, hr⟩ := row ht hc he h
 exact ⟨ys, A, c, rfl, hl, hr⟩
end Opens
end Go.Proofs.Ytjndadjhhknggaa.Q
end
section
/- Whatever the input, FnExactStepSink returns true, and its arguments read as they did. No condition. -/
namespace Go.Proofs.Ytjndadjhhknggaa.Q
open Go.ChangeShapes Go.WideShapes Go.ChangeAt Go.RowKit Go.Proofs.YtjndadjhhknggaaW.PrintWords
set_option linter.unusedVariables false
namespace FnExactStepSinkRow
theorem opens82 (W : World) : Opens Try.prog W 82 k82 :=
 Opens.struct (g := fun x => ⟨x.1, x.2.1, x.2.2⟩) (fun _ => rfl) Try.underlying82 (by kernel_rfl)
  (Opens.cons rfl (by kernel_rfl) (Opens.int (by kernel_rfl)) (Opens.cons rfl (by kernel_rfl) (Opens.int (by kernel_rfl)) (Opens.last rfl (by kernel_rfl) (Opens.slice (by kernel_rfl) (by kernel_rfl) (Opens.int (by kernel_rfl)))) (by decide)) (by decide))
def k53 : Kd SI := Kd.iso (Kd.pair (Kd.slice 3 (Kd.int .i64)) (Kd.pair (Kd.int .i64) (Kd.pair (Kd.slice 3 (Kd.int .i64)) (Kd.pair (Kd.slice 82 k82) (Kd.pair (Kd.slice 3 (Kd.int .i64)) (Kd.pair (Kd.int .i64) (Kd.int .i64))))))) (fun x : SI => (x.src, x.at_, x.pend, x.stored, x.out, x.last, x.upto))
theorem opens53 (W : World) : Opens Try.prog W 53 k53 :=
 Opens.struct (g := fun x => ⟨x.1, x.2.1, x.2.2.1, x.2.2.2.1, x.2.2.2.2.1, x.2.2.2.2.2.1, x.2.2.2.2.2.2⟩) (fun _ => rfl) Try.underlying53 (by kernel_rfl)
  (Opens.cons rfl (by kernel_rfl) (Opens.slice (by kernel_rfl) (by kernel_rfl) (Opens.int (by kernel_rfl)))
  (Opens.cons rfl (by kernel_rfl) (Opens.int (by kernel_rfl))
  (Opens.cons rfl (by kernel_rfl) (Opens.slice (by kernel_rfl) (by kernel_rfl) (Opens.int (by kernel_rfl)))
  (Opens.cons rfl (by kernel_rfl) (Opens.slice (by kernel_rfl) (by kernel_rfl) (opens82 W))
  (Opens.cons rfl (by kernel_rfl) (Opens.slice (by kernel_rfl) (by kernel_rfl) (Opens.int (by kernel_rfl)))
  (Opens.cons rfl (by kernel_rfl) (Opens.int (by kernel_rfl)) (Opens.last rfl (by kernel_rfl) (Opens.int (by kernel_rfl))) (by decide)) (by decide)) (by decide)) (by decide)) (by decide)) (by decide))
theorem own : ownKnob Try.prog.godebug = none := by kernel_rfl
theorem laidOut : laidOutB Try.prog = true := by kernel_rfl
set_option maxRecDepth 100000 in
theorem lifted (os : Os) (started : os.Started) (H : Type) (enc : TypeId × Value → H) :
  ReturnsInHanded {} Try.checked os 6 .any (Rows.fnExactStepSinkSpec.pre6 enc Try.prog Try.f6 Rows.fnExactStepSinkRow.domain false) (Rows.fnExactStepSinkSpec.post enc Try.prog Try.f6 false true false false) := by
 refine returnsInHanded_of_change_sized (C := Try.checked) own started (by kernel_rfl) Try.func6
  (ChangeSpec.witness6 (enc := enc) (C := Try.checked) false ⟨#[], #[.agg #[.slice none 0 0, .int .i64 0, .slice none 0 0, .slice none 0 0, .slice none 0 0, .int .i64 0, .int .i64 0], .int .i64 0], []⟩ 30 (by kernel_rfl) (by kernel_rfl) (by kernel_rfl) (by kernel_rfl)) ?_
 intro W base args ds gs before hval0 hW hcnd hsz0 _
 have hval : ∀ (j : Nat) t v, Try.f6.params[j]? = some t → args[j]? = some v → Value.okWide Try.prog W .any base t v := hval0
 have hW' := hW
 obtain ⟨p, q, hA0, hV, rfl, hfz, hnd⟩ := hW
 have hA : DataW.TrodAll enc Try.prog W 0 (fun _ => true) true Try.f6.params.toList args.toList ds p := hA0
 rw [Try.params6] at hA hval
 obtain ⟨v0, vs0, d0, ds0, p0, q0, hargs, rfl, rfl, h0, r0⟩ := trodAll_cons hA
 obtain ⟨v1, vs1, d1, ds1, p1, q1, hargs1, rfl, rfl, h1, r1⟩ := trodAll_cons r0
 obtain ⟨rfl, rfl, rfl⟩ := trodAll_nil r1
 obtain rfl : args = #[v0, v1] := by cases args; simp_all
 obtain ⟨rfl, rfl⟩ := trodVars_none hV
 obtain ⟨cs, rfl, _⟩ := okWide_struct Try.underlying53 (hval 0 53 v0 rfl rfl)
 obtain ⟨n1, rfl⟩ := okWide_int (k := .i64) (by kernel_rfl) (hval 1 3 v1 rfl rfl)
 have k1 := h1
 have lt1 : ∀ x ∈ p1, x.block < W.heap.size := by obtain ⟨m, hm⟩ := k1; exact DataW.trod_lt m _ _ _ hm
 have k0 := h0
 have lt0 : ∀ x ∈ p0, x.block < W.heap.size := by obtain ⟨m, hm⟩ := k0; exact DataW.trod_lt m _ _ _ hm
 obtain ⟨x, A0, c0, A2, c2, A3, c3, A4, c4, rfl, l0, r0, l2, r2, l3, r3, l4, r4⟩ : ∃ (x : SI) (A0 : Option Addr) (c0 : Nat) (A2 : Option Addr) (c2 : Nat) (A3 : Option Addr) (c3 : Nat) (A4 : Option Addr) (c4 : Nat), cs = #[.slice A0 x.src.length c0, .int .i64 x.at_, .slice A2 x.pend.length c2, .slice A3 x.stored.length c3, .slice A4 x.out.length c4, .int .i64 x.last, .int .i64 x.upto] ∧ x.src.length ≤ c0 ∧ Kd.C (Kd.int .i64) W A0 x.src.length x.src ∧ x.pend.length ≤ c2 ∧ Kd.C (Kd.int .i64) W A2 x.pend.length x.pend ∧ x.stored.length ≤ c3 ∧ Kd.C k82 W A3 x.stored.length x.stored ∧ x.out.length ≤ c4 ∧ Kd.C (Kd.int .i64) W A4 x.out.length x.out := by
  obtain ⟨fuel, hf⟩ := h0
  obtain ⟨x, hx⟩ := opens53 W enc 0 (fun _ => true) true fuel _ _ hf
  obtain ⟨_, _, e0, ⟨A0, c0, rfl, l0, r0⟩, ⟨_, _, rfl, rfl, ⟨_, _, rfl, ⟨A2, c2, rfl, l2, r2⟩, ⟨_, _, rfl, ⟨A3, c3, rfl, l3, r3⟩, ⟨_, _, rfl, ⟨A4, c4, rfl, l4, r4⟩, ⟨_, _, rfl, rfl, rfl⟩⟩⟩⟩⟩⟩ := hx
  refine ⟨x, A0, c0, A2, c2, A3, c3, A4, c4, ?_, l0, r0, l2, r2, l3, r3, l4, r4⟩
  have e2 : cs.toList = _ := e0
  cases cs
  simpa using e2
 clear hA0 hval0 hsz0
 refine (law_stepsink x n1 A0 A2 A3 A4 c0 c2 c3 c4 W r0 l0 r2 l2 r3 l3 r4 l4).mono fun e W' ⟨he, bel⟩ => ?_
 subst he
 exact ⟨_, rfl, _, _, _, [], _, [], hW', trodAll_mk1 (shut_bool Try.underlying4 _), (trodAll_cons_mk (Below.trod laidOut (by kernel_rfl) (of_decide_eq_true (by kernel_rfl)) k0 bel lt0) (trodAll_cons_mk (Below.trod laidOut (by kernel_rfl) (of_decide_eq_true (by kernel_rfl)) k1 bel lt1) trodAll_mk0)), rfl, bel.frame _, fun h => by cases h⟩
theorem over : Rows.fnExactStepSinkRow.holds Try.pinned (OpenSpec.ofChange Rows.fnExactStepSinkSpec) :=
 OpenClaim.holds_of_wide 6 Try.f6 rfl rfl rfl rfl rfl rfl rfl ⟨rfl, rfl, rfl, rfl, rfl⟩ rfl rfl rfl rfl rfl (by kernel_rfl) Try.func6 (by kernel_rfl)
  (of_decide_eq_true (by kernel_rfl)) (by unfold Func.isWrapper; first | (rw [if_pos (by decide +kernel)]; kernel_rfl) | (rw [if_neg (by decide +kernel)]; exact ⟨rfl, rfl⟩))
  (fun os started H enc _ => lifted os started H enc)
end FnExactStepSinkRow
end Go.Proofs.Ytjndadjhhknggaa.Q
namespace Go.Proofs.Ytjndadjhhknggaa
/-- The row, under a short name. -/
theorem fnExactStepSink_holds : Rows.FnExactStepSinkSaid := Q.FnExactStepSinkRow.over
end Go.Proofs.Ytjndadjhhknggaa
end
