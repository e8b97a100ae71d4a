/- Whatever the input, FnExactPopMap returns true, and its argument reads as it did. No condition. -/
import Derived.Deep.Slices
import Derived.ChangeArms
import Derived.OpenShut
import Derived.Test.YtdggcaepdinndaaRows
import Derived.WalkKit
import Derived.ProofKit
import Derived.ChangeOld
import Derived.Below
import Derived.SizedLaws
import Derived.Test.YtdggcaepdinndaaY1
import Derived.Test.YtdggcaepdinndaaY2
import Derived.Test.YtdggcaepdinndaaY3
import Derived.Test.YtdggcaepdinndaaY4
import Derived.Test.YtdggcaepdinndaaY5
import Derived.Test.YtdggcaepdinndaaY6
import Derived.Test.YtdggcaepdinndaaY7
section
/- Contracts of a function, printed for this claim by a program of ours over the kit's print. -/
namespace Go.Proofs.Ytdggcaepdinndaa.Q
open Go.RowKit Go.Proofs.YtdggcaepdinndaaW.PrintWords Go.Proofs.YtdggcaepdinndaaW.PrintLast Go.Proofs.YtdggcaepdinndaaW.PrintMore
attribute [local go_sem] max2_int min2_int max_two min_two max_three min_three max_four min_four   -- for this text's walks alone
set_option linter.unusedVariables false
set_option linter.unusedSimpArgs false

/-! ### laws_heldWindow: function 28 -/
def laws_heldWindow.f (k : Nat) (l0_0 : List (S30)) (l0_1 : List (S30)) (l0_2 : List (S30)) (a0_3 : Int) (a0_4 : Int) (a1 : Int) : Option (Int) := (laws_heldMapS.f k l0_0 a1).bind fun t102 => (if t102 < 0 then (some (-1)) else ((laws_heldMapS.f k l0_1 t102).bind fun t103 => (if t103 < 0 then (some (-1)) else ((laws_heldMapS.f k l0_2 t103).bind fun t104 => (if t104 < 0 then (some (-1)) else (some t104))))))
set_option maxHeartbeats 8000000 in
set_option maxRecDepth 100000 in
theorem laws_heldWindow.calls (k : Nat) (A0_0 : Option Addr) (c0_0 : Nat) (l0_0 : List (S30)) (A0_1 : Option Addr) (c0_1 : Nat) (l0_1 : List (S30)) (A0_2 : Option Addr) (c0_2 : Nat) (l0_2 : List (S30)) (a0_3 : Int) (a0_4 : Int) (a1 : Int) (r : Int) (w : World) (hr0_0 : Kd.C k30 w A0_0 l0_0.length l0_0) (hc0_0 : l0_0.length ≤ c0_0) (hr0_1 : Kd.C k30 w A0_1 l0_1.length l0_1) (hc0_1 : l0_1.length ≤ c0_1) (hr0_2 : Kd.C k30 w A0_2 l0_2.length l0_2) (hc0_2 : l0_2.length ≤ c0_2) (h : laws_heldWindow.f k l0_0 l0_1 l0_2 a0_3 a0_4 a1 = some r) :
  Calls Try.prog 28 #[.agg #[.slice A0_0 l0_0.length c0_0, .slice A0_1 l0_1.length c0_1, .slice A0_2 l0_2.length c0_2, .int .i64 a0_3, .int .i64 a0_4], .int .i64 a1] w fun e w' => e = .returned (.int .i64 r) ∧ Below w.heap.size w w' := by
 have hu32 := Try.underlying32
 have HR0_0 := Aside0.mk hr0_0
 have HC0_0 := Aside0.mk hc0_0
 clear hr0_0 hc0_0
 have HR0_1 := Aside0.mk hr0_1
 have HC0_1 := Aside0.mk hc0_1
 clear hr0_1 hc0_1
 have HR0_2 := Aside0.mk hr0_2
 have HC0_2 := Aside0.mk hc0_2
 clear hr0_2 hc0_2
 have HB := Aside0.mk (Below.refl w.heap.size w)
 have H : ((laws_heldMapS.f k l0_0 a1).bind fun t102 => (if t102 < 0 then (some (-1)) else ((laws_heldMapS.f k l0_1 t102).bind fun t103 => (if t103 < 0 then (some (-1)) else ((laws_heldMapS.f k l0_2 t103).bind fun t104 => (if t104 < 0 then (some (-1)) else (some t104))))))) = some r := h
 clear h
 replace H := Option.bind_eq_some_iff.mp H
 obtain ⟨t102, A30, H⟩ := H
 replace H : (if t102 < 0 then (some (-1)) else ((laws_heldMapS.f k l0_1 t102).bind fun t103 => (if t103 < 0 then (some (-1)) else ((laws_heldMapS.f k l0_2 t103).bind fun t104 => (if t104 < 0 then (some (-1)) else (some t104)))))) = some r := H
 have A3 := Aside0.mk A30
 clear A30
 by_cases c4 : t102 < 0
 ·rw [if_pos c4] at H
  have c4b0 : decide (t102 < 0) = true := decide_eq_true c4
  clear c4
  obtain rfl := Option.some.inj H
  go_enter Try.func28, Try.ntmps28
  go_wp2_with (first | ((with_reducible refine gate_dst (N := 2) rfl ?_); refine box_event ?hg (N := 2) ?hd (cs := #[.slice A0_0 l0_0.length c0_0, .slice A0_1 l0_1.length c0_1, .slice A0_2 l0_2.length c0_2, .int .i64 a0_3, .int .i64 a0_4]) (t := 32) ?hr ?_; (case hd => rfl); (case hg => rfl); (case hr => first | (go_simp; done) | (go_simp; rfl)); intro gb101 hg w5 hbox hb; have n0_ := Aside0.mk (below_step (by repeat (first | (with_reducible first | exact HB.out | apply below_alloc | apply pw_below_drewN | apply below_drew1) | exact HB.out)) hb); have n1_ := Aside0.mk (hbox); have n2_ := Aside0.mk ((by rw [hg]; exact (below_size (by repeat (first | (with_reducible first | exact HB.out | apply below_alloc | apply pw_below_drewN | apply below_drew1) | exact HB.out))) : w.heap.size ≤ gb101)); have n3_ := Aside0.mk ((by rw [hg]; exact (below_size (by repeat (first | (with_reducible first | exact HB.out | apply below_alloc | apply pw_below_drewN | apply below_drew1) | exact HB.out))) : w.heap.size ≤ gb101)); clear HB; have HB := n0_; have BK101 := n1_; have GW101 := n2_; have GE101 := n3_; clear n0_ n1_ n2_ n3_; clear hb hbox hg; have hcz6_0 : w5.cell? ⟨gb101, 0, none⟩ = some (.slice A0_0 l0_0.length c0_0) := (blk_cell BK101.out 0).trans rfl; have hcz6_1 : w5.cell? ⟨gb101, 1, none⟩ = some (.slice A0_1 l0_1.length c0_1) := (blk_cell BK101.out 1).trans rfl; have hcz6_2 : w5.cell? ⟨gb101, 2, none⟩ = some (.slice A0_2 l0_2.length c0_2) := (blk_cell BK101.out 2).trans rfl; have hcz6_3 : w5.cell? ⟨gb101, 3, none⟩ = some (.int .i64 a0_3) := (blk_cell BK101.out 3).trans rfl; have hcz6_4 : w5.cell? ⟨gb101, 4, none⟩ = some (.int .i64 a0_4) := (blk_cell BK101.out 4).trans rfl; have hfz6_0 := blk_frozen BK101.out 0; have hfz6_1 := blk_frozen BK101.out 1; have hfz6_2 := blk_frozen BK101.out 2; have hfz6_3 := blk_frozen BK101.out 3; have hfz6_4 := blk_frozen BK101.out 4) | ((with_reducible refine gate_callee (f := 61) rfl ?_); refine goesL_ (some 8) rfl rfl Try.func61 (by kernel_rfl) rfl #[.slice A0_0 l0_0.length c0_0, .int .i64 a1] rfl (by (try simp only [List.map_toArray, List.map_cons, List.map_nil]); first | done | rfl | (simp only [List.length_drop, List.length_take]; rfl)) ?_; (with_reducible refine (laws_heldMapS.calls k _ _ l0_0 a1 t102 _ ?side1 ?side2 A3.out).mono ?_); (case side1 => repeat (first | exact (Kd.C_below HR0_0.out HB.out) | (with_reducible refine Kd.C_alloc ?_ _) | (with_reducible refine Kd.C_drewN ?_ _) | (with_reducible refine Kd.C_drew ?_))); (case side2 => exact HC0_0.out); rintro e w' ⟨rfl, ⟨nd, rfl⟩⟩; refine ⟨_, rfl, ?_⟩))
  go_ret
  exact ⟨by first | rfl | (simp [errW_none, errW_some] <;> rfl) | (simp [*, errW_none, errW_some] <;> rfl), by repeat (first | (with_reducible first | exact HB.out | apply below_alloc | apply pw_below_drewN | apply below_drew1 | refine below_set ?_ GE101.out) | exact HB.out)⟩
 ·rw [if_neg c4] at H
  have c4b0 : decide (t102 < 0) = false := decide_eq_false c4
  clear c4
  replace H := Option.bind_eq_some_iff.mp H
  obtain ⟨t103, A70, H⟩ := H
  replace H : (if t103 < 0 then (some (-1)) else ((laws_heldMapS.f k l0_2 t103).bind fun t104 => (if t104 < 0 then (some (-1)) else (some t104)))) = some r := H
  have A7 := Aside0.mk A70
  clear A70
  by_cases c8 : t103 < 0
  ·rw [if_pos c8] at H
   have c8b0 : decide (t103 < 0) = true := decide_eq_true c8
   clear c8
   obtain rfl := Option.some.inj H
   go_enter Try.func28, Try.ntmps28
   go_wp2_with (first | ((with_reducible refine gate_dst (N := 2) rfl ?_); refine box_event ?hg (N := 2) ?hd (cs := #[.slice A0_0 l0_0.length c0_0, .slice A0_1 l0_1.length c0_1, .slice A0_2 l0_2.length c0_2, .int .i64 a0_3, .int .i64 a0_4]) (t := 32) ?hr ?_; (case hd => rfl); (case hg => rfl); (case hr => first | (go_simp; done) | (go_simp; rfl)); intro gb101 hg w9 hbox hb; have n0_ := Aside0.mk (below_step (by repeat (first | (with_reducible first | exact HB.out | apply below_alloc | apply pw_below_drewN | apply below_drew1) | exact HB.out)) hb); have n1_ := Aside0.mk (hbox); have n2_ := Aside0.mk ((by rw [hg]; exact (below_size (by repeat (first | (with_reducible first | exact HB.out | apply below_alloc | apply pw_below_drewN | apply below_drew1) | exact HB.out))) : w.heap.size ≤ gb101)); have n3_ := Aside0.mk ((by rw [hg]; exact (below_size (by repeat (first | (with_reducible first | exact HB.out | apply below_alloc | apply pw_below_drewN | apply below_drew1) | exact HB.out))) : w.heap.size ≤ gb101)); clear HB; have HB := n0_; have BK101 := n1_; have GW101 := n2_; have GE101 := n3_; clear n0_ n1_ n2_ n3_; clear hb hbox hg; have hcz10_0 : w9.cell? ⟨gb101, 0, none⟩ = some (.slice A0_0 l0_0.length c0_0) := (blk_cell BK101.out 0).trans rfl; have hcz10_1 : w9.cell? ⟨gb101, 1, none⟩ = some (.slice A0_1 l0_1.length c0_1) := (blk_cell BK101.out 1).trans rfl; have hcz10_2 : w9.cell? ⟨gb101, 2, none⟩ = some (.slice A0_2 l0_2.length c0_2) := (blk_cell BK101.out 2).trans rfl; have hcz10_3 : w9.cell? ⟨gb101, 3, none⟩ = some (.int .i64 a0_3) := (blk_cell BK101.out 3).trans rfl; have hcz10_4 : w9.cell? ⟨gb101, 4, none⟩ = some (.int .i64 a0_4) := (blk_cell BK101.out 4).trans rfl; have hfz10_0 := blk_frozen BK101.out 0; have hfz10_1 := blk_frozen BK101.out 1; have hfz10_2 := blk_frozen BK101.out 2; have hfz10_3 := blk_frozen BK101.out 3; have hfz10_4 := blk_frozen BK101.out 4) | ((with_reducible refine gate_callee (f := 61) rfl ?_); refine goesL_ (some 8) rfl rfl Try.func61 (by kernel_rfl) rfl #[.slice A0_0 l0_0.length c0_0, .int .i64 a1] rfl (by (try simp only [List.map_toArray, List.map_cons, List.map_nil]); first | done | rfl | (simp only [List.length_drop, List.length_take]; rfl)) ?_; (with_reducible refine (laws_heldMapS.calls k _ _ l0_0 a1 t102 _ ?side1 ?side2 A3.out).mono ?_); (case side1 => repeat (first | exact (Kd.C_below HR0_0.out HB.out) | (with_reducible refine Kd.C_alloc ?_ _) | (with_reducible refine Kd.C_drewN ?_ _) | (with_reducible refine Kd.C_drew ?_))); (case side2 => exact HC0_0.out); rintro e w' ⟨rfl, ⟨nd, rfl⟩⟩; refine ⟨_, rfl, ?_⟩) | ((with_reducible refine gate_callee (f := 61) rfl ?_); refine goesL_ (some 14) rfl rfl Try.func61 (by kernel_rfl) rfl #[.slice A0_1 l0_1.length c0_1, .int .i64 t102] rfl (by (try simp only [List.map_toArray, List.map_cons, List.map_nil]); first | done | rfl | (simp only [List.length_drop, List.length_take]; rfl)) ?_; (with_reducible refine (laws_heldMapS.calls k _ _ l0_1 t102 t103 _ ?side1 ?side2 A7.out).mono ?_); (case side1 => repeat (first | exact (Kd.C_below HR0_1.out (by repeat (first | (with_reducible first | exact HB.out | apply below_alloc | apply pw_below_drewN | apply below_drew1 | refine below_set ?_ GE101.out) | exact HB.out))) | (with_reducible refine Kd.C_alloc ?_ _) | (with_reducible refine Kd.C_drewN ?_ _) | (with_reducible refine Kd.C_drew ?_))); (case side2 => exact HC0_1.out); rintro e w' ⟨rfl, ⟨nd, rfl⟩⟩; refine ⟨_, rfl, ?_⟩))
   go_ret
   exact ⟨by first | rfl | (simp [errW_none, errW_some] <;> rfl) | (simp [*, errW_none, errW_some] <;> rfl), by repeat (first | (with_reducible first | exact HB.out | apply below_alloc | apply pw_below_drewN | apply below_drew1 | refine below_set ?_ GE101.out) | exact HB.out)⟩
  ·rw [if_neg c8] at H
   have c8b0 : decide (t103 < 0) = false := decide_eq_false c8
   clear c8
   replace H := Option.bind_eq_some_iff.mp H
   obtain ⟨t104, A110, H⟩ := H
   replace H : (if t104 < 0 then (some (-1)) else (some t104)) = some r := H
   have A11 := Aside0.mk A110
   clear A110
   by_cases c12 : t104 < 0
   ·rw [if_pos c12] at H
    have c12b0 : decide (t104 < 0) = true := decide_eq_true c12
    clear c12
    obtain rfl := Option.some.inj H
    go_enter Try.func28, Try.ntmps28
    go_wp2_with (first | ((with_reducible refine gate_dst (N := 2) rfl ?_); refine box_event ?hg (N := 2) ?hd (cs := #[.slice A0_0 l0_0.length c0_0, .slice A0_1 l0_1.length c0_1, .slice A0_2 l0_2.length c0_2, .int .i64 a0_3, .int .i64 a0_4]) (t := 32) ?hr ?_; (case hd => rfl); (case hg => rfl); (case hr => first | (go_simp; done) | (go_simp; rfl)); intro gb101 hg w13 hbox hb; have n0_ := Aside0.mk (below_step (by repeat (first | (with_reducible first | exact HB.out | apply below_alloc | apply pw_below_drewN | apply below_drew1) | exact HB.out)) hb); have n1_ := Aside0.mk (hbox); have n2_ := Aside0.mk ((by rw [hg]; exact (below_size (by repeat (first | (with_reducible first | exact HB.out | apply below_alloc | apply pw_below_drewN | apply below_drew1) | exact HB.out))) : w.heap.size ≤ gb101)); have n3_ := Aside0.mk ((by rw [hg]; exact (below_size (by repeat (first | (with_reducible first | exact HB.out | apply below_alloc | apply pw_below_drewN | apply below_drew1) | exact HB.out))) : w.heap.size ≤ gb101)); clear HB; have HB := n0_; have BK101 := n1_; have GW101 := n2_; have GE101 := n3_; clear n0_ n1_ n2_ n3_; clear hb hbox hg; have hcz14_0 : w13.cell? ⟨gb101, 0, none⟩ = some (.slice A0_0 l0_0.length c0_0) := (blk_cell BK101.out 0).trans rfl; have hcz14_1 : w13.cell? ⟨gb101, 1, none⟩ = some (.slice A0_1 l0_1.length c0_1) := (blk_cell BK101.out 1).trans rfl; have hcz14_2 : w13.cell? ⟨gb101, 2, none⟩ = some (.slice A0_2 l0_2.length c0_2) := (blk_cell BK101.out 2).trans rfl; have hcz14_3 : w13.cell? ⟨gb101, 3, none⟩ = some (.int .i64 a0_3) := (blk_cell BK101.out 3).trans rfl; have hcz14_4 : w13.cell? ⟨gb101, 4, none⟩ = some (.int .i64 a0_4) := (blk_cell BK101.out 4).trans rfl; have hfz14_0 := blk_frozen BK101.out 0; have hfz14_1 := blk_frozen BK101.out 1; have hfz14_2 := blk_frozen BK101.out 2; have hfz14_3 := blk_frozen BK101.out 3; have hfz14_4 := blk_frozen BK101.out 4) | ((with_reducible refine gate_callee (f := 61) rfl ?_); refine goesL_ (some 8) rfl rfl Try.func61 (by kernel_rfl) rfl #[.slice A0_0 l0_0.length c0_0, .int .i64 a1] rfl (by (try simp only [List.map_toArray, List.map_cons, List.map_nil]); first | done | rfl | (simp only [List.length_drop, List.length_take]; rfl)) ?_; (with_reducible refine (laws_heldMapS.calls k _ _ l0_0 a1 t102 _ ?side1 ?side2 A3.out).mono ?_); (case side1 => repeat (first | exact (Kd.C_below HR0_0.out HB.out) | (with_reducible refine Kd.C_alloc ?_ _) | (with_reducible refine Kd.C_drewN ?_ _) | (with_reducible refine Kd.C_drew ?_))); (case side2 => exact HC0_0.out); rintro e w' ⟨rfl, ⟨nd, rfl⟩⟩; refine ⟨_, rfl, ?_⟩) | ((with_reducible refine gate_callee (f := 61) rfl ?_); refine goesL_ (some 14) rfl rfl Try.func61 (by kernel_rfl) rfl #[.slice A0_1 l0_1.length c0_1, .int .i64 t102] rfl (by (try simp only [List.map_toArray, List.map_cons, List.map_nil]); first | done | rfl | (simp only [List.length_drop, List.length_take]; rfl)) ?_; (with_reducible refine (laws_heldMapS.calls k _ _ l0_1 t102 t103 _ ?side1 ?side2 A7.out).mono ?_); (case side1 => repeat (first | exact (Kd.C_below HR0_1.out (by repeat (first | (with_reducible first | exact HB.out | apply below_alloc | apply pw_below_drewN | apply below_drew1 | refine below_set ?_ GE101.out) | exact HB.out))) | (with_reducible refine Kd.C_alloc ?_ _) | (with_reducible refine Kd.C_drewN ?_ _) | (with_reducible refine Kd.C_drew ?_))); (case side2 => exact HC0_1.out); rintro e w' ⟨rfl, ⟨nd, rfl⟩⟩; refine ⟨_, rfl, ?_⟩) | ((with_reducible refine gate_callee (f := 61) rfl ?_); refine goesL_ (some 20) rfl rfl Try.func61 (by kernel_rfl) rfl #[.slice A0_2 l0_2.length c0_2, .int .i64 t103] rfl (by (try simp only [List.map_toArray, List.map_cons, List.map_nil]); first | done | rfl | (simp only [List.length_drop, List.length_take]; rfl)) ?_; (with_reducible refine (laws_heldMapS.calls k _ _ l0_2 t103 t104 _ ?side1 ?side2 A11.out).mono ?_); (case side1 => repeat (first | exact (Kd.C_below HR0_2.out (by repeat (first | (with_reducible first | exact HB.out | apply below_alloc | apply pw_below_drewN | apply below_drew1 | refine below_set ?_ GE101.out) | exact HB.out))) | (with_reducible refine Kd.C_alloc ?_ _) | (with_reducible refine Kd.C_drewN ?_ _) | (with_reducible refine Kd.C_drew ?_))); (case side2 => exact HC0_2.out); rintro e w' ⟨rfl, ⟨nd, rfl⟩⟩; refine ⟨_, rfl, ?_⟩))
    go_ret
    exact ⟨by first | rfl | (simp [errW_none, errW_some] <;> rfl) | (simp [*, errW_none, errW_some] <;> rfl), by repeat (first | (with_reducible first | exact HB.out | apply below_alloc | apply pw_below_drewN | apply below_drew1 | refine below_set ?_ GE101.out) | exact HB.out)⟩
   ·rw [if_neg c12] at H
    have c12b0 : decide (t104 < 0) = false := decide_eq_false c12
    clear c12
    obtain rfl := Option.some.inj H
    go_enter Try.func28, Try.ntmps28
    go_wp2_with (first | ((with_reducible refine gate_dst (N := 2) rfl ?_); refine box_event ?hg (N := 2) ?hd (cs := #[.slice A0_0 l0_0.length c0_0, .slice A0_1 l0_1.length c0_1, .slice A0_2 l0_2.length c0_2, .int .i64 a0_3, .int .i64 a0_4]) (t := 32) ?hr ?_; (case hd => rfl); (case hg => rfl); (case hr => first | (go_simp; done) | (go_simp; rfl)); intro gb101 hg w15 hbox hb; have n0_ := Aside0.mk (below_step (by repeat (first | (with_reducible first | exact HB.out | apply below_alloc | apply pw_below_drewN | apply below_drew1) | exact HB.out)) hb); have n1_ := Aside0.mk (hbox); have n2_ := Aside0.mk ((by rw [hg]; exact (below_size (by repeat (first | (with_reducible first | exact HB.out | apply below_alloc | apply pw_below_drewN | apply below_drew1) | exact HB.out))) : w.heap.size ≤ gb101)); have n3_ := Aside0.mk ((by rw [hg]; exact (below_size (by repeat (first | (with_reducible first | exact HB.out | apply below_alloc | apply pw_below_drewN | apply below_drew1) | exact HB.out))) : w.heap.size ≤ gb101)); clear HB; have HB := n0_; have BK101 := n1_; have GW101 := n2_; have GE101 := n3_; clear n0_ n1_ n2_ n3_; clear hb hbox hg; have hcz16_0 : w15.cell? ⟨gb101, 0, none⟩ = some (.slice A0_0 l0_0.length c0_0) := (blk_cell BK101.out 0).trans rfl; have hcz16_1 : w15.cell? ⟨gb101, 1, none⟩ = some (.slice A0_1 l0_1.length c0_1) := (blk_cell BK101.out 1).trans rfl; have hcz16_2 : w15.cell? ⟨gb101, 2, none⟩ = some (.slice A0_2 l0_2.length c0_2) := (blk_cell BK101.out 2).trans rfl; have hcz16_3 : w15.cell? ⟨gb101, 3, none⟩ = some (.int .i64 a0_3) := (blk_cell BK101.out 3).trans rfl; have hcz16_4 : w15.cell? ⟨gb101, 4, none⟩ = some (.int .i64 a0_4) := (blk_cell BK101.out 4).trans rfl; have hfz16_0 := blk_frozen BK101.out 0; have hfz16_1 := blk_frozen BK101.out 1; have hfz16_2 := blk_frozen BK101.out 2; have hfz16_3 := blk_frozen BK101.out 3; have hfz16_4 := blk_frozen BK101.out 4) | ((with_reducible refine gate_callee (f := 61) rfl ?_); refine goesL_ (some 8) rfl rfl Try.func61 (by kernel_rfl) rfl #[.slice A0_0 l0_0.length c0_0, .int .i64 a1] rfl (by (try simp only [List.map_toArray, List.map_cons, List.map_nil]); first | done | rfl | (simp only [List.length_drop, List.length_take]; rfl)) ?_; (with_reducible refine (laws_heldMapS.calls k _ _ l0_0 a1 t102 _ ?side1 ?side2 A3.out).mono ?_); (case side1 => repeat (first | exact (Kd.C_below HR0_0.out HB.out) | (with_reducible refine Kd.C_alloc ?_ _) | (with_reducible refine Kd.C_drewN ?_ _) | (with_reducible refine Kd.C_drew ?_))); (case side2 => exact HC0_0.out); rintro e w' ⟨rfl, ⟨nd, rfl⟩⟩; refine ⟨_, rfl, ?_⟩) | ((with_reducible refine gate_callee (f := 61) rfl ?_); refine goesL_ (some 14) rfl rfl Try.func61 (by kernel_rfl) rfl #[.slice A0_1 l0_1.length c0_1, .int .i64 t102] rfl (by (try simp only [List.map_toArray, List.map_cons, List.map_nil]); first | done | rfl | (simp only [List.length_drop, List.length_take]; rfl)) ?_; (with_reducible refine (laws_heldMapS.calls k _ _ l0_1 t102 t103 _ ?side1 ?side2 A7.out).mono ?_); (case side1 => repeat (first | exact (Kd.C_below HR0_1.out (by repeat (first | (with_reducible first | exact HB.out | apply below_alloc | apply pw_below_drewN | apply below_drew1 | refine below_set ?_ GE101.out) | exact HB.out))) | (with_reducible refine Kd.C_alloc ?_ _) | (with_reducible refine Kd.C_drewN ?_ _) | (with_reducible refine Kd.C_drew ?_))); (case side2 => exact HC0_1.out); rintro e w' ⟨rfl, ⟨nd, rfl⟩⟩; refine ⟨_, rfl, ?_⟩) | ((with_reducible refine gate_callee (f := 61) rfl ?_); refine goesL_ (some 20) rfl rfl Try.func61 (by kernel_rfl) rfl #[.slice A0_2 l0_2.length c0_2, .int .i64 t103] rfl (by (try simp only [List.map_toArray, List.map_cons, List.map_nil]); first | done | rfl | (simp only [List.length_drop, List.length_take]; rfl)) ?_; (with_reducible refine (laws_heldMapS.calls k _ _ l0_2 t103 t104 _ ?side1 ?side2 A11.out).mono ?_); (case side1 => repeat (first | exact (Kd.C_below HR0_2.out (by repeat (first | (with_reducible first | exact HB.out | apply below_alloc | apply pw_below_drewN | apply below_drew1 | refine below_set ?_ GE101.out) | exact HB.out))) | (with_reducible refine Kd.C_alloc ?_ _) | (with_reducible refine Kd.C_drewN ?_ _) | (with_reducible refine Kd.C_drew ?_))); (case side2 => exact HC0_2.out); rintro e w' ⟨rfl, ⟨nd, rfl⟩⟩; refine ⟨_, rfl, ?_⟩))
    go_ret
    exact ⟨by first | rfl | (simp [errW_none, errW_some] <;> rfl) | (simp [*, errW_none, errW_some] <;> rfl), by repeat (first | (with_reducible first | exact HB.out | apply below_alloc | apply pw_below_drewN | apply below_drew1 | refine below_set ?_ GE101.out) | exact HB.out)⟩

end Go.Proofs.Ytdggcaepdinndaa.Q
end
section
/- What the law's own helpers over windows come to. -/
namespace Go.Proofs.Ytdggcaepdinndaa.Q
open Go.RowKit Go.Proofs.YtdggcaepdinndaaW.PrintWords Go.Proofs.YtdggcaepdinndaaW.PrintLast
set_option linter.unusedVariables false
set_option linter.unusedSimpArgs false

theorem eqmaps_l0 (l : List S30) (hl : l.length ≤ 1000000000) (d : Nat) : ∀ (f i : Nat), i + d = l.length → d < f → laws_eqMapS.l0 f l l (i : Int) = some true := by
 induction d with
 | zero =>
  intro f i hi hf
  obtain ⟨f, rfl⟩ : ∃ m, f = m + 1 := ⟨f - 1, by omega⟩
  simp only [laws_eqMapS.l0]
  rw [if_neg (by omega)]
 | succ d ih =>
  intro f i hi hf
  obtain ⟨f, rfl⟩ : ∃ m, f = m + 1 := ⟨f - 1, by omega⟩
  simp only [laws_eqMapS.l0, laws_eqMap.f]
  rw [if_pos (by omega), if_pos (by omega), if_pos (by omega)]
  simp only [if_true, Option.bind_some]
  rw [wrap_id ((i : Int) + 1) (by omega) (by omega)]
  have := ih f (i + 1) (by omega) (by omega)
  rwa [show ((i + 1 : Nat) : Int) = (i : Int) + 1 from by omega] at this
theorem eqmaps_f (l : List S30) (hl : l.length ≤ 1000000000) (f : Nat) (hf : l.length < f) : laws_eqMapS.f f l l = some true := by
 have := eqmaps_l0 l hl l.length f 0 (by omega) hf
 simpa [laws_eqMapS.f] using this
theorem eqwin_f (F S B : List S30) (a b : Int) (hF : F.length ≤ 1000000000) (hS : S.length ≤ 1000000000) (hB : B.length ≤ 1000000000) : laws_eqWindow.f (F.length + S.length + B.length + 1) F S B a b F S B a b = some true := by
 unfold laws_eqWindow.f
 rw [eqmaps_f F hF _ (by omega), eqmaps_f S hS _ (by omega), eqmaps_f B hB _ (by omega)]
 simp [laws_eqMap.f]
def conv (x : S50) : S30 := ⟨x.f0, x.f1⟩
def convTo (l : List S50) (i : Nat) : List S30 := (l.take i).map conv ++ List.replicate (l.length - i) z30
theorem convTo_length (l : List S50) (i : Nat) (hi : i ≤ l.length) : (convTo l i).length = l.length := by simp [convTo]; omega
theorem convTo_succ (l : List S50) (i : Nat) (hi : i < l.length) : (convTo l i).set i (conv (l.getD i z50)) = convTo l (i + 1) := by
 unfold convTo
 have hl : ((l.take i).map conv).length = i := by simp; omega
 rw [List.set_append, if_neg (by omega), hl, Nat.sub_self, List.take_succ_eq_append_getElem hi, List.map_append, List.append_assoc]
 congr 1
 rw [show l.length - i = (l.length - (i + 1)) + 1 from by omega, List.replicate_succ, List.set_cons_zero, List.getD_eq_getElem?_getD, List.getElem?_eq_getElem hi]
 rfl
theorem to_l0 (l : List S50) (hl : l.length ≤ 1000000000) (d : Nat) : ∀ (f i : Nat), i + d = l.length → d < f → laws_toMapS.l0 f l (convTo l i) (i : Int) = some (l.map conv) := by
 induction d with
 | zero =>
  intro f i hi hf
  obtain ⟨f, rfl⟩ : ∃ m, f = m + 1 := ⟨f - 1, by omega⟩
  simp only [laws_toMapS.l0]
  rw [if_neg (by omega)]
  have : i = l.length := by omega
  subst this
  simp [convTo]
 | succ d ih =>
  intro f i hi hf
  obtain ⟨f, rfl⟩ : ∃ m, f = m + 1 := ⟨f - 1, by omega⟩
  have hlt : i < l.length := by omega
  simp only [laws_toMapS.l0, laws_toMap.f]
  rw [if_pos (by omega), if_pos (by omega)]
  simp only [Option.bind_some]
  rw [if_pos (by rw [convTo_length l i (by omega)]; omega), wrap_id ((i : Int) + 1) (by omega) (by omega)]
  have := ih f (i + 1) (by omega) (by omega)
  rw [← convTo_succ l i hlt, show ((i + 1 : Nat) : Int) = (i : Int) + 1 from by omega] at this
  exact this
theorem to_f (l : List S50) (hl : l.length ≤ 1000000000) (f : Nat) (hf : l.length < f) : laws_toMapS.f f l = some (l.map conv) := by
 have := to_l0 l hl l.length f 0 (by omega) hf
 unfold laws_toMapS.f
 rw [if_pos (by omega), if_pos (by simp; omega)]
 simpa [convTo] using this
theorem towin_f (F S B : List S50) (a b : Int) (hF : F.length ≤ 1000000000) (hS : S.length ≤ 1000000000) (hB : B.length ≤ 1000000000) : laws_toWindow.f (F.length + S.length + B.length + 1) F S B a b = some (F.map conv, S.map conv, B.map conv, a, b) := by
 unfold laws_toWindow.f
 rw [to_f F hF _ (by omega), to_f S hS _ (by omega), to_f B hB _ (by omega)]
 rfl
theorem szwin_f (F S B : List S50) (a b : Int) (hF : F.length ≤ 9223372036854775807) (hS : S.length ≤ 9223372036854775807) (hB : B.length ≤ 9223372036854775807) :
  ∃ r, laws_szWindow.f F S B a b 1048576 = some r ∧ (0 ≤ r → F.length ≤ 1048576 ∧ S.length ≤ 1048576 ∧ B.length ≤ 1048576) := by
 unfold laws_szWindow.f laws_szMapS.f
 rw [wrap_id (1048576 - (F.length : Int)) (by omega) (by omega)]
 by_cases h1 : 1048576 - (F.length : Int) < 0
 ·rw [if_pos h1]
  exact ⟨-1, by simp, by omega⟩
 ·rw [if_neg h1]
  simp only [Option.bind_some]
  rw [if_neg h1, wrap_id (1048576 - (F.length : Int) - S.length) (by omega) (by omega)]
  by_cases h2 : 1048576 - (F.length : Int) - S.length < 0
  ·rw [if_pos h2]
   exact ⟨-1, by simp, by omega⟩
  ·rw [if_neg h2]
   simp only [Option.bind_some]
   rw [if_neg h2, wrap_id (1048576 - (F.length : Int) - S.length - B.length) (by omega) (by omega)]
   by_cases h3 : 1048576 - (F.length : Int) - S.length - B.length < 0
   ·rw [if_pos h3]
    exact ⟨-1, by simp, by omega⟩
   ·rw [if_neg h3]
    simp only [Option.bind_some]
    rw [if_neg h3]
    exact ⟨_, rfl, by omega⟩
/-- A row marked with the numbers from k on, two an element. -/
def mk2 (k : Int) : List S30 → List S30
 | [] => []
 | _ :: l => ⟨k, k + 1⟩ :: mk2 (k + 2) l
theorem mk2_length (k : Int) (l : List S30) : (mk2 k l).length = l.length := by
 induction l generalizing k with
 | nil => rfl
 | cons x l ih => simp [mk2, ih]
theorem mk2_at (k : Int) (l : List S30) (i : Nat) (hi : i < l.length) : (mk2 k l).getD i z30 = ⟨k + 2 * i, k + 2 * i + 1⟩ := by
 induction l generalizing k i with
 | nil => simp at hi
 | cons x l ih =>
  cases i with
  | zero => simp [mk2]
  | succ i =>
   have := ih (k + 2) i (by simpa using hi)
   simp only [mk2, List.getD_cons_succ, this]
   congr 1 <;> omega
def mk2To (k : Int) (l : List S30) (i : Nat) : List S30 := mk2 k (l.take i) ++ l.drop i
theorem mk2To_length (k : Int) (l : List S30) (i : Nat) : (mk2To k l i).length = l.length := by
 simp only [mk2To, List.length_append, mk2_length, List.length_take, List.length_drop]
 omega
theorem mk2_snoc (k : Int) (l : List S30) (x : S30) : mk2 k (l ++ [x]) = mk2 k l ++ [⟨k + 2 * l.length, k + 2 * l.length + 1⟩] := by
 induction l generalizing k with
 | nil => simp [mk2]
 | cons y l ih =>
  simp only [List.cons_append, mk2, ih, List.length_cons]
  congr 3
  congr 1 <;> omega
theorem mk2To_succ (k : Int) (l : List S30) (i : Nat) (hi : i < l.length) : mk2To k l (i + 1) = (mk2To k l i).set i ⟨k + 2 * i, k + 2 * i + 1⟩ := by
 unfold mk2To
 have hl : (mk2 k (l.take i)).length = i := by rw [mk2_length, List.length_take]; omega
 rw [List.set_append, if_neg (by omega), hl, Nat.sub_self, List.take_succ_eq_append_getElem hi, mk2_snoc, List.append_assoc, List.drop_eq_getElem_cons hi, List.set_cons_zero, List.length_take, Nat.min_eq_left (by omega)]
 rfl
theorem mark_l0 (l : List S30) (k : Int) (hk0 : 0 ≤ k) (hk : k + 2 * l.length ≤ 1000000000) (d : Nat) : ∀ (f i : Nat), i + d = l.length → d < f → laws_markMapS.l0 f (mk2To k l i) (k + 2 * i) (i : Int) = some (k + 2 * l.length, mk2 k l) := by
 induction d with
 | zero =>
  intro f i hi hf
  obtain ⟨f, rfl⟩ : ∃ m, f = m + 1 := ⟨f - 1, by omega⟩
  simp only [laws_markMapS.l0]
  rw [if_neg (by rw [mk2To_length]; omega)]
  have : i = l.length := by omega
  subst this
  simp [mk2To]
 | succ d ih =>
  intro f i hi hf
  obtain ⟨f, rfl⟩ : ∃ m, f = m + 1 := ⟨f - 1, by omega⟩
  have hlt : i < l.length := by omega
  simp only [laws_markMapS.l0, Option.bind_some]
  rw [if_pos (by rw [mk2To_length]; omega), if_pos (by omega), wrap_id (k + 2 * (i : Int) + 1) (by omega) (by omega), wrap_id (k + 2 * (i : Int) + 1 + 1) (by omega) (by omega), wrap_id ((i : Int) + 1) (by omega) (by omega)]
  have := ih f (i + 1) (by omega) (by omega)
  rw [mk2To_succ k l i hlt, show ((i + 1 : Nat) : Int) = (i : Int) + 1 from by omega, show k + 2 * ((i : Int) + 1) = k + 2 * (i : Int) + 1 + 1 from by omega] at this
  have hrd : (rd_T30 ((mk2To k l i).set i ⟨k + 2 * i, (rd_T30 (mk2To k l i) i).f1⟩) i).f0 = k + 2 * i := by
   rw [rd_at _ i (by rw [List.length_set, mk2To_length]; exact hlt)]
   simp
  simp only [Int.toNat_natCast]
  rw [hrd, List.set_set]
  exact this
theorem mark_f (l : List S30) (k : Int) (hk0 : 0 ≤ k) (hk : k + 2 * l.length ≤ 1000000000) (f : Nat) (hf : l.length < f) : laws_markMapS.f f l k = some (k + 2 * l.length, mk2 k l) := by
 have := mark_l0 l k hk0 hk l.length f 0 (by omega) hf
 simpa [laws_markMapS.f, mk2To, mk2] using this
theorem held_l0 (l : List S30) (k : Int) (hk0 : 0 ≤ k) (hk : k + 2 * l.length ≤ 1000000000) (d : Nat) : ∀ (f i : Nat), i + d = l.length → d < f → laws_heldMapS.l0 f (mk2 k l) (k + 2 * i) (i : Int) = some (k + 2 * l.length) := by
 induction d with
 | zero =>
  intro f i hi hf
  obtain ⟨f, rfl⟩ : ∃ m, f = m + 1 := ⟨f - 1, by omega⟩
  simp only [laws_heldMapS.l0]
  rw [if_neg (by rw [mk2_length]; omega)]
  congr 2
  omega
 | succ d ih =>
  intro f i hi hf
  obtain ⟨f, rfl⟩ : ∃ m, f = m + 1 := ⟨f - 1, by omega⟩
  have hlt : i < l.length := by omega
  simp only [laws_heldMapS.l0]
  have hx : rd_T30 (mk2 k l) (i : Int) = ⟨k + 2 * i, k + 2 * i + 1⟩ := mk2_at k l i hlt
  rw [if_pos (by rw [mk2_length]; omega), if_pos (by omega), hx, wrap_id (k + 2 * (i : Int) + 1) (by omega) (by omega), wrap_id (k + 2 * (i : Int) + 1 + 1) (by omega) (by omega), wrap_id ((i : Int) + 1) (by omega) (by omega)]
  simp only [if_true]
  have := ih f (i + 1) (by omega) (by omega)
  rw [show ((i + 1 : Nat) : Int) = (i : Int) + 1 from by omega, show k + 2 * ((i : Int) + 1) = k + 2 * (i : Int) + 1 + 1 from by omega] at this
  exact this
theorem held_f (l : List S30) (k : Int) (hk0 : 0 ≤ k) (hk : k + 2 * l.length ≤ 1000000000) (f : Nat) (hf : l.length < f) : laws_heldMapS.f f (mk2 k l) k = some (k + 2 * l.length) := by
 have := held_l0 l k hk0 hk l.length f 0 (by omega) hf
 simpa [laws_heldMapS.f] using this
def mF (F : List S30) : List S30 := mk2 1 F
def mS (F S : List S30) : List S30 := mk2 (1 + 2 * F.length) S
def mB (F S B : List S30) : List S30 := mk2 (1 + 2 * F.length + 2 * S.length) B
theorem markwin_f (F S B : List S30) (a b : Int) (hF : F.length ≤ 100000000) (hS : S.length ≤ 100000000) (hB : B.length ≤ 100000000) : laws_markWindow.f (F.length + S.length + B.length + 1) F S B a b 1 = some (1 + 2 * (F.length : Int) + 2 * (S.length : Int) + 2 * (B.length : Int), mF F, mS F S, mB F S B) := by
 unfold laws_markWindow.f
 rw [mark_f F 1 (by omega) (by omega) _ (by omega)]
 simp only [Option.bind_some]
 rw [mark_f S _ (by omega) (by omega) _ (by omega)]
 simp only [Option.bind_some]
 rw [mark_f B _ (by omega) (by omega) _ (by omega)]
 rfl
theorem heldwin_f (F S B : List S30) (a b : Int) (hF : F.length ≤ 100000000) (hS : S.length ≤ 100000000) (hB : B.length ≤ 100000000) : laws_heldWindow.f (F.length + S.length + B.length + 1) (mF F) (mS F S) (mB F S B) a b 1 = some (1 + 2 * (F.length : Int) + 2 * (S.length : Int) + 2 * (B.length : Int)) := by
 unfold laws_heldWindow.f mF mS mB
 rw [held_f F 1 (by omega) (by omega) _ (by omega)]
 simp only [Option.bind_some]
 rw [if_neg (by omega), held_f S _ (by omega) (by omega) _ (by omega)]
 simp only [Option.bind_some]
 rw [if_neg (by omega), held_f B _ (by omega) (by omega) _ (by omega)]
 simp only [Option.bind_some]
 rw [if_neg (by omega)]
end Go.Proofs.Ytdggcaepdinndaa.Q
end
section
/- FnExactPopMap's own walk: on every window it answers true, and leaves all that was there as it was. -/
namespace Go.Proofs.Ytdggcaepdinndaa.Q
open Go.RowKit Go.Proofs.YtdggcaepdinndaaW.PrintWords Go.Proofs.YtdggcaepdinndaaW.PrintLast
set_option linter.unusedVariables false
set_option linter.unusedSimpArgs false

/-- The law's own window, in memory. -/
def Win50 (g : Nat) (W : World) (F S B : List S50) (a b : Int) : Prop :=
 ∃ AF cF AS cS AB cB, W.heap[g]? = some (.cells #[.slice AF F.length cF, .slice AS S.length cS, .slice AB B.length cB, .int .i64 a, .int .i64 b] 52 (0, 0)) ∧
  F.length ≤ cF ∧ S.length ≤ cS ∧ B.length ≤ cB ∧ Kd.C k50 W AF F.length F ∧ Kd.C k50 W AS S.length S ∧ Kd.C k50 W AB B.length B
/-- A window and a map in memory, that are read. -/
def WinC (g : Nat) (W : World) (F S B : List S30) (a b : Int) : Prop :=
 ∃ AF cF AS cS AB cB, W.heap[g]? = some (.cells #[.slice AF F.length cF, .slice AS S.length cS, .slice AB B.length cB, .int .i64 a, .int .i64 b] 32 (0, 0)) ∧
  F.length ≤ cF ∧ S.length ≤ cS ∧ B.length ≤ cB ∧ Kd.C k30 W AF F.length F ∧ Kd.C k30 W AS S.length S ∧ Kd.C k30 W AB B.length B
/-- A window whose rows, told apart, are the call's own. -/
def WinR (g base hi : Nat) (W : World) (F S B : List S30) (a b : Int) : Prop :=
 ∃ AF cF AS cS AB cB, W.heap[g]? = some (.cells #[.slice AF F.length cF, .slice AS S.length cS, .slice AB B.length cB, .int .i64 a, .int .i64 b] 32 (0, 0)) ∧
  Kd.R k30 30 W base (fun k => k < hi ∧ some k ≠ (Value.slice AS S.length cS).ownBlock ∧ some k ≠ (Value.slice AB B.length cB).ownBlock) (.slice AF F.length cF) F ∧
  Kd.R k30 30 W base (fun k => k < hi ∧ some k ≠ (Value.slice AF F.length cF).ownBlock ∧ some k ≠ (Value.slice AB B.length cB).ownBlock) (.slice AS S.length cS) S ∧
  Kd.R k30 30 W base (fun k => k < hi ∧ some k ≠ (Value.slice AF F.length cF).ownBlock ∧ some k ≠ (Value.slice AS S.length cS).ownBlock) (.slice AB B.length cB) B
theorem Win50.below {g : Nat} {W W' : World} {F S B : List S50} {a b : Int} (h : Win50 g W F S B a b) (hb : Below W.heap.size W W') : Win50 g W' F S B a b := by
 obtain ⟨AF, cF, AS, cS, AB, cB, h0, h1, h2, h3, h4, h5, h6⟩ := h
 exact ⟨AF, cF, AS, cS, AB, cB, blk_below h0 hb, h1, h2, h3, Kd.C_below h4 hb, Kd.C_below h5 hb, Kd.C_below h6 hb⟩
theorem WinC.below {g : Nat} {W W' : World} {F S B : List S30} {a b : Int} (h : WinC g W F S B a b) (hb : Below W.heap.size W W') : WinC g W' F S B a b := by
 obtain ⟨AF, cF, AS, cS, AB, cB, h0, h1, h2, h3, h4, h5, h6⟩ := h
 exact ⟨AF, cF, AS, cS, AB, cB, blk_below h0 hb, h1, h2, h3, Kd.C_below h4 hb, Kd.C_below h5 hb, Kd.C_below h6 hb⟩
theorem WinR.below {g base hi : Nat} {W W' : World} {F S B : List S30} {a b : Int} (h : WinR g base hi W F S B a b) (hb : Below W.heap.size W W') : WinR g base hi W' F S B a b := by
 obtain ⟨AF, cF, AS, cS, AB, cB, h0, h1, h2, h3⟩ := h
 exact ⟨AF, cF, AS, cS, AB, cB, blk_below h0 hb, Kd.R_below h1 hb, Kd.R_below h2 hb, Kd.R_below h3 hb⟩
theorem WinR.toC {g base hi : Nat} {W : World} {F S B : List S30} {a b : Int} (h : WinR g base hi W F S B a b) : WinC g W F S B a b := by
 obtain ⟨AF, cF, AS, cS, AB, cB, h0, h1, h2, h3⟩ := h
 exact ⟨AF, cF, AS, cS, AB, cB, h0, (Kd.R_reads' h1).2.1, (Kd.R_reads' h2).2.1, (Kd.R_reads' h3).2.1, (Kd.R_reads' h1).2.2, (Kd.R_reads' h2).2.2, (Kd.R_reads' h3).2.2⟩
theorem cells5 {w : World} {g t : Nat} {v0 v1 v2 v3 v4 : Value} (h : w.heap[g]? = some (.cells #[v0, v1, v2, v3, v4] t (0, 0))) : w.cell? ⟨g, 0, none⟩ = some v0 ∧ w.cell? ⟨g, 1, none⟩ = some v1 ∧ w.cell? ⟨g, 2, none⟩ = some v2 ∧ w.cell? ⟨g, 3, none⟩ = some v3 ∧ w.cell? ⟨g, 4, none⟩ = some v4 :=
 ⟨(blk_cell h 0).trans rfl, (blk_cell h 1).trans rfl, (blk_cell h 2).trans rfl, (blk_cell h 3).trans rfl, (blk_cell h 4).trans rfl⟩
theorem cells2 {w : World} {g t : Nat} {v0 v1 : Value} (h : w.heap[g]? = some (.cells #[v0, v1] t (0, 0))) : w.cell? ⟨g, 0, none⟩ = some v0 ∧ w.cell? ⟨g, 1, none⟩ = some v1 :=
 ⟨(blk_cell h 0).trans rfl, (blk_cell h 1).trans rfl⟩
/-- What a mark leaves of what it does not own. -/
theorem kept_out {w w' : World} {P : Nat → Prop} {lo hi i : Nat} {o : Obj} (hk : Kept w w' P) (hP : ∀ k, P k → lo ≤ k ∧ k < hi) (ho : w.heap[i]? = some o) (hi' : i < lo ∨ hi ≤ i) : w'.heap[i]? = some o :=
 (hk.2 i (blk_lt ho) (fun h => by have := hP i h; omega)).trans ho
theorem R30_own {W : World} {base : Nat} {ok : Nat → Prop} {v : Value} {xs : List S30} (h : Kd.R k30 30 W base ok v xs) : Kd.R k30 30 W base (fun k => v.ownBlock = some k) v xs :=
 ⟨fun k hk => hk, h.2⟩
/-- The mark on a window of one's own: what it returns, what stands marked, what it leaves. -/
theorem mark_win {g base hi : Nat} {w0 W : World} {F S B : List S30} {a b : Int} (h : WinR g base hi W F S B a b) (h0 : w0.heap.size = base) (hB : Below w0.heap.size w0 W) (hg : hi ≤ g) (hF : F.length ≤ 100000000) (hS : S.length ≤ 100000000) (hL : B.length ≤ 100000000) :
  ∃ AF cF AS cS AB cB, W.heap[g]? = some (.cells #[.slice AF F.length cF, .slice AS S.length cS, .slice AB B.length cB, .int .i64 a, .int .i64 b] 32 (0, 0)) ∧
   Calls Try.prog 27 #[.agg #[.slice AF F.length cF, .slice AS S.length cS, .slice AB B.length cB, .int .i64 a, .int .i64 b], .int .i64 1] W fun e w' => e = .returned (.int .i64 (1 + 2 * (F.length : Int) + 2 * (S.length : Int) + 2 * (B.length : Int))) ∧ WinC g w' (mF F) (mS F S) (mB F S B) a b ∧ Below base w0 w' ∧ W.heap.size ≤ w'.heap.size ∧ ∀ i o, W.heap[i]? = some o → (i < base ∨ hi ≤ i) → w'.heap[i]? = some o := by
 obtain ⟨AF, cF, AS, cS, AB, cB, hc, h1, h2, h3⟩ := h
 refine ⟨AF, cF, AS, cS, AB, cB, hc, ?_⟩
 subst h0
 have p1 : ∀ k, (Value.slice AF F.length cF).ownBlock = some k → w0.heap.size ≤ k ∧ k < hi := fun k hk => ⟨Kd.R_base h1 k hk, (h1.1 k hk).1⟩
 have p2 : ∀ k, (Value.slice AS S.length cS).ownBlock = some k → w0.heap.size ≤ k ∧ k < hi := fun k hk => ⟨Kd.R_base h2 k hk, (h2.1 k hk).1⟩
 have p3 : ∀ k, (Value.slice AB B.length cB).ownBlock = some k → w0.heap.size ≤ k ∧ k < hi := fun k hk => ⟨Kd.R_base h3 k hk, (h3.1 k hk).1⟩
 refine (laws_markWindow.calls (F.length + S.length + B.length + 1) _ _ F _ _ S _ _ B a b 1 _ _ _ _ w0 W hB (R30_own h1) (fun k hk => fun hk2 => (h1.1 k hk).2.1 hk2.symm) (fun k hk => fun hk2 => (h1.1 k hk).2.2 hk2.symm) (R30_own h2) (fun k hk => fun hk2 => (h2.1 k hk).2.1 hk2.symm) (fun k hk => fun hk2 => (h2.1 k hk).2.2 hk2.symm) (R30_own h3) (fun k hk => fun hk2 => (h3.1 k hk).2.1 hk2.symm) (fun k hk => fun hk2 => (h3.1 k hk).2.2 hk2.symm) (markwin_f F S B a b hF hS hL)).mono ?_
 rintro e w' ⟨rfl, r1, r2, r3, hb, hk⟩
 have hout : ∀ i o, W.heap[i]? = some o → (i < w0.heap.size ∨ hi ≤ i) → w'.heap[i]? = some o := fun i o ho hi' => kept_out (lo := w0.heap.size) (hi := hi) hk (fun k hP => by rcases hP with hP | hP | hP; exact p1 k hP; exact p2 k hP; exact p3 k hP) ho hi'
 have l1 : (mF F).length = F.length := mk2_length _ _
 have l2 : (mS F S).length = S.length := mk2_length _ _
 have l3 : (mB F S B).length = B.length := mk2_length _ _
 obtain ⟨_, q1, q2⟩ := Kd.R_reads' r1
 obtain ⟨_, q3, q4⟩ := Kd.R_reads' r2
 obtain ⟨_, q5, q6⟩ := Kd.R_reads' r3
 refine ⟨rfl, ⟨AF, cF, AS, cS, AB, cB, ?_, by rw [l1]; exact q1, by rw [l2]; exact q3, by rw [l3]; exact q5, q2, q4, q6⟩, hb, hk.1, hout⟩
 rw [l1, l2, l3]
 exact hout g _ hc (Or.inr hg)
theorem held_win {g : Nat} {W : World} {F S B : List S30} {a b : Int} (h : WinC g W (mF F) (mS F S) (mB F S B) a b) (hF : F.length ≤ 100000000) (hS : S.length ≤ 100000000) (hL : B.length ≤ 100000000) :
  ∃ AF cF AS cS AB cB, W.heap[g]? = some (.cells #[.slice AF F.length cF, .slice AS S.length cS, .slice AB B.length cB, .int .i64 a, .int .i64 b] 32 (0, 0)) ∧
   Calls Try.prog 28 #[.agg #[.slice AF F.length cF, .slice AS S.length cS, .slice AB B.length cB, .int .i64 a, .int .i64 b], .int .i64 1] W fun e w' => e = .returned (.int .i64 (1 + 2 * (F.length : Int) + 2 * (S.length : Int) + 2 * (B.length : Int))) ∧ Below W.heap.size W w' := by
 obtain ⟨AF, cF, AS, cS, AB, cB, hc, h1, h2, h3, h4, h5, h6⟩ := h
 have := laws_heldWindow.calls (F.length + S.length + B.length + 1) AF cF (mF F) AS cS (mS F S) AB cB (mB F S B) a b 1 _ W h4 h1 h5 h2 h6 h3 (heldwin_f F S B a b hF hS hL)
 have l1 : (mF F).length = F.length := mk2_length _ _
 have l2 : (mS F S).length = S.length := mk2_length _ _
 have l3 : (mB F S B).length = B.length := mk2_length _ _
 rw [l1, l2, l3] at this hc
 exact ⟨AF, cF, AS, cS, AB, cB, hc, this⟩
theorem to_win {g : Nat} {W : World} {F S B : List S50} {a b : Int} (h : Win50 g W F S B a b) (hF : F.length ≤ 1048576) (hS : S.length ≤ 1048576) (hL : B.length ≤ 1048576) :
  ∃ AF cF AS cS AB cB, W.heap[g]? = some (.cells #[.slice AF F.length cF, .slice AS S.length cS, .slice AB B.length cB, .int .i64 a, .int .i64 b] 52 (0, 0)) ∧
   Calls Try.prog 24 #[.agg #[.slice AF F.length cF, .slice AS S.length cS, .slice AB B.length cB, .int .i64 a, .int .i64 b]] W fun e w' => ∃ XF dF XS dS XB dB, e = .returned (.agg #[.slice XF (F.map conv).length dF, .slice XS (S.map conv).length dS, .slice XB (B.map conv).length dB, .int .i64 a, .int .i64 b]) ∧ Below W.heap.size W w' ∧
    Kd.R k30 30 w' W.heap.size (fun k => k < w'.heap.size ∧ some k ≠ (Value.slice XS (S.map conv).length dS).ownBlock ∧ some k ≠ (Value.slice XB (B.map conv).length dB).ownBlock) (.slice XF (F.map conv).length dF) (F.map conv) ∧
    Kd.R k30 30 w' W.heap.size (fun k => k < w'.heap.size ∧ some k ≠ (Value.slice XF (F.map conv).length dF).ownBlock ∧ some k ≠ (Value.slice XB (B.map conv).length dB).ownBlock) (.slice XS (S.map conv).length dS) (S.map conv) ∧
    Kd.R k30 30 w' W.heap.size (fun k => k < w'.heap.size ∧ some k ≠ (Value.slice XF (F.map conv).length dF).ownBlock ∧ some k ≠ (Value.slice XS (S.map conv).length dS).ownBlock) (.slice XB (B.map conv).length dB) (B.map conv) := by
 obtain ⟨AF, cF, AS, cS, AB, cB, hc, h1, h2, h3, h4, h5, h6⟩ := h
 refine ⟨AF, cF, AS, cS, AB, cB, hc, (laws_toWindow.calls (F.length + S.length + B.length + 1) AF cF F AS cS S AB cB B a b _ _ _ _ _ W h4 h1 h5 h2 h6 h3 (towin_f F S B a b (by omega) (by omega) (by omega))).mono ?_⟩
 rintro e w' ⟨v0, v1, v2, rfl, r0, r1, r2, hb⟩
 obtain ⟨XF, dF, rfl⟩ := Kd.R_slice r0
 obtain ⟨XS, dS, rfl⟩ := Kd.R_slice r1
 obtain ⟨XB, dB, rfl⟩ := Kd.R_slice r2
 exact ⟨XF, dF, XS, dS, XB, dB, rfl, hb, Kd.R_mono (Kd.R_bound r0) (fun k hk => ⟨hk.2.2.1, hk.1⟩), Kd.R_mono (Kd.R_bound r1) (fun k hk => ⟨hk.2.2.1, hk.1⟩), Kd.R_mono (Kd.R_bound r2) (fun k hk => ⟨hk.2.2.1, hk.1⟩)⟩
theorem eq_win {g g' : Nat} {W : World} {F S B : List S30} {a b : Int} (h : WinC g W F S B a b) (h' : WinC g' W F S B a b) (hF : F.length ≤ 100000000) (hS : S.length ≤ 100000000) (hL : B.length ≤ 100000000) :
  ∃ AF cF AS cS AB cB XF dF XS dS XB dB, W.heap[g]? = some (.cells #[.slice AF F.length cF, .slice AS S.length cS, .slice AB B.length cB, .int .i64 a, .int .i64 b] 32 (0, 0)) ∧ W.heap[g']? = some (.cells #[.slice XF F.length dF, .slice XS S.length dS, .slice XB B.length dB, .int .i64 a, .int .i64 b] 32 (0, 0)) ∧
   Calls Try.prog 25 #[.agg #[.slice AF F.length cF, .slice AS S.length cS, .slice AB B.length cB, .int .i64 a, .int .i64 b], .agg #[.slice XF F.length dF, .slice XS S.length dS, .slice XB B.length dB, .int .i64 a, .int .i64 b]] W fun e w' => e = .returned (.bool true) ∧ Below W.heap.size W w' := by
 obtain ⟨AF, cF, AS, cS, AB, cB, hc, h1, h2, h3, h4, h5, h6⟩ := h
 obtain ⟨XF, dF, XS, dS, XB, dB, hc', k1, k2, k3, k4, k5, k6⟩ := h'
 exact ⟨AF, cF, AS, cS, AB, cB, XF, dF, XS, dS, XB, dB, hc, hc', laws_eqWindow.calls _ AF cF F AS cS S AB cB B a b XF dF F XS dS S XB dB B a b true W h4 h1 h5 h2 h6 h3 k4 k1 k5 k2 k6 k3 (eqwin_f F S B a b (by omega) (by omega) (by omega))⟩
theorem eq_map (a b : Int) (W : World) : Calls Try.prog 26 #[.agg #[.int .i64 a, .int .i64 b], .agg #[.int .i64 a, .int .i64 b]] W fun e w' => e = .returned (.bool true) ∧ Below W.heap.size W w' :=
 laws_eqMap.calls a b a b true W (by simp [laws_eqMap.f])
end Go.Proofs.Ytdggcaepdinndaa.Q
end
section
/- FnExactPopMap's own walk: on every window it answers true, and leaves all that was there as it was. -/
namespace Go.Proofs.Ytdggcaepdinndaa.Q
open Go.RowKit Go.Proofs.YtdggcaepdinndaaW.PrintWords Go.Proofs.YtdggcaepdinndaaW.PrintLast
set_option linter.unusedVariables false
set_option linter.unusedSimpArgs false

theorem two_new (W : World) (c d : Array Value) : Below W.heap.size W ((W.alloc (.cells c 32)).alloc (.cells d 30)) ∧ ((W.alloc (.cells c 32)).alloc (.cells d 30)).heap[W.heap.size]? = some (.cells c 32 (0, 0)) ∧ ((W.alloc (.cells c 32)).alloc (.cells d 30)).heap[W.heap.size + 1]? = some (.cells d 30 (0, 0)) ∧ ((W.alloc (.cells c 32)).alloc (.cells d 30)).heap.size = W.heap.size + 2 := by
 have s1 : (W.alloc (.cells c 32)).heap.size = W.heap.size + 1 := by simp
 exact ⟨below_alloc (below_alloc (Below.refl _ W) _) _, blk_alloc (blk_new W _) _, by rw [← s1]; exact blk_new _ _, by simp⟩
theorem WinR.out_ {g base hi lo hi' : Nat} {W W' : World} {F S B : List S30} {a b : Int} (h : WinR g base hi W F S B a b) (ho : ∀ i o, W.heap[i]? = some o → (i < lo ∨ hi' ≤ i) → W'.heap[i]? = some o) (h1 : hi' ≤ base) (h2 : hi' ≤ g) : WinR g base hi W' F S B a b := by
 obtain ⟨AF, cF, AS, cS, AB, cB, h0, r1, r2, r3⟩ := h
 have hm : ∀ k, base ≤ k → k < W.heap.size → W'.heap[k]? = W.heap[k]? := fun k hk hlt => by
  have e : W.heap[k]? = some W.heap[k] := Array.getElem?_eq_getElem hlt
  rw [e]
  exact ho k _ e (Or.inr (Nat.le_trans h1 hk))
 exact ⟨AF, cF, AS, cS, AB, cB, ho g _ h0 (Or.inr h2), Kd.R_mono (Kd.R_step (Kd.R_bound r1) (fun k hk hlt => hm k hk.2.1 hlt)) (fun k hk => hk.1), Kd.R_mono (Kd.R_step (Kd.R_bound r2) (fun k hk hlt => hm k hk.2.1 hlt)) (fun k hk => hk.1), Kd.R_mono (Kd.R_step (Kd.R_bound r3) (fun k hk hlt => hm k hk.2.1 hlt)) (fun k hk => hk.1)⟩
theorem WinR.lower {g base base' hi : Nat} {W : World} {F S B : List S30} {a b : Int} (h : WinR g base hi W F S B a b) (hb : base' ≤ base) : WinR g base' hi W F S B a b := by
 obtain ⟨AF, cF, AS, cS, AB, cB, h0, r1, r2, r3⟩ := h
 exact ⟨AF, cF, AS, cS, AB, cB, h0, Kd.R_lower r1 hb, Kd.R_lower r2 hb, Kd.R_lower r3 hb⟩
set_option maxHeartbeats 8000000 in
theorem law_popmap (AF AS AB : Option Addr) (cF cS cB : Nat) (F S B : List S50) (a b : Int) (w : World) (h1 : F.length ≤ cF) (h2 : S.length ≤ cS) (h3 : B.length ≤ cB) (h4 : Kd.C k50 w AF F.length F) (h5 : Kd.C k50 w AS S.length S) (h6 : Kd.C k50 w AB B.length B) :
  Calls Try.prog 4 #[.agg #[.slice AF F.length cF, .slice AS S.length cS, .slice AB B.length cB, .int .i64 a, .int .i64 b]] w fun e w' => e = .returned (.bool true) ∧ Below w.heap.size w w' := by
 obtain ⟨r, hr, hsz⟩ := szwin_f F S B a b h4.2.1 h5.2.1 h6.2.1
 have hb1 : Below w.heap.size w (w.alloc (.cells #[.slice AF F.length cF, .slice AS S.length cS, .slice AB B.length cB, .int .i64 a, .int .i64 b] 52)) := below_alloc (Below.refl _ w) _
 have HA : Aside0 (Win50 w.heap.size (w.alloc (.cells #[.slice AF F.length cF, .slice AS S.length cS, .slice AB B.length cB, .int .i64 a, .int .i64 b] 52)) F S B a b) := ⟨⟨AF, cF, AS, cS, AB, cB, blk_new w _, h1, h2, h3, Kd.C_below h4 hb1, Kd.C_below h5 hb1, Kd.C_below h6 hb1⟩⟩
 have HSZC := Aside0.mk (laws_szWindow.calls AF cF F AS cS S AB cB B a b 1048576 r _ (Kd.C_below h4 hb1) h1 (Kd.C_below h5 hb1) h2 (Kd.C_below h6 hb1) h3 hr)
 have HB1 := Aside0.mk hb1
 have hc1 := blk_new w (.cells #[.slice AF F.length cF, .slice AS S.length cS, .slice AB B.length cB, .int .i64 a, .int .i64 b] 52)
 have HSZ := Aside0.mk hsz
 have hu52 := Try.underlying52
 have hu32 := Try.underlying32
 have hu30 := Try.underlying30
 have hu50 := Try.underlying50
 clear h1 h2 h3 h4 h5 h6 hb1 hr hsz
 go_enter Try.func4, Try.ntmps4
 go_upto_region 2 with fail
 generalize w.alloc (.cells #[.slice AF F.length cF, .slice AS S.length cS, .slice AB B.length cB, .int .i64 a, .int .i64 b] 52) = W1 at HA HSZC HB1 hc1 ⊢
 obtain ⟨c0, c1, c2, c3, c4⟩ := cells5 hc1
 clear hc1
 go_wp2_with fail
 go_at_call 22; refine HSZC.out.mono ?_; rintro e w2 ⟨rfl, hb2⟩
 have HB2 := Aside0.mk (below_then HB1.out HB1.out.size hb2)
 have HA := Aside0.mk (HA.out.below hb2)
 clear hb2 c0 c1 c2 c3 c4 HSZC
 by_cases hneg : r < 0
 ·go_wp2_with fail
  go_ret
  exact ⟨rfl, HB2.out⟩
 ·have HSZ := Aside0.mk (HSZ.out (by omega))
  obtain ⟨RF, RS, RB, ra, rb, m0, m1, many, ok, l1, l2, l3, hspec, himpl⟩ := both (F.map conv) (S.map conv) (B.map conv) a b (by rw [List.length_map]; exact HSZ.out.1) (by rw [List.length_map]; exact HSZ.out.2.1) (by rw [List.length_map]; exact HSZ.out.2.2)
  have htow := fun (W : World) (h : Win50 w.heap.size W F S B a b) => to_win h HSZ.out.1 HSZ.out.2.1 HSZ.out.2.2
  have hg1 : (F.map conv).length ≤ 1048576 := by rw [List.length_map]; exact HSZ.out.1
  have hg2 : (S.map conv).length ≤ 1048576 := by rw [List.length_map]; exact HSZ.out.2.1
  have hg3 : (B.map conv).length ≤ 1048576 := by rw [List.length_map]; exact HSZ.out.2.2
  generalize F.map conv = G1 at htow hspec himpl hg1
  generalize S.map conv = G2 at htow hspec himpl hg2
  generalize B.map conv = G3 at htow hspec himpl hg3
  have HTOW := Aside0.mk htow
  have HGL := Aside0.mk (And.intro hg1 (And.intro hg2 hg3))
  clear htow hg1 hg2 hg3
  have HL := Aside0.mk (And.intro l1 (And.intro l2 l3))
  have HSPEC := Aside0.mk hspec
  have HIMPL := Aside0.mk himpl
  clear l1 l2 l3 hspec himpl
  obtain ⟨A1, k1, A2, k2, A3, k3, hc, hto⟩ := HTOW.out _ HA.out
  obtain ⟨c0, c1, c2, c3, c4⟩ := cells5 hc
  have HTO := Aside0.mk hto
  clear hc hto
  go_wp2_with fail
  go_at_call 24; refine HTO.out.mono ?_; rintro e w3 ⟨X1, d1, X2, d2, X3, d3, rfl, hb3, r1, r2, r3⟩
  have HA := Aside0.mk (HA.out.below hb3)
  have HB3 := Aside0.mk (below_then HB2.out HB2.out.size hb3)
  have hs := HSPEC.out w3 X1 X2 X3 d1 d2 d3 (Kd.R_reads' r1).2.2 (Kd.R_reads' r1).2.1 (Kd.R_reads' r2).2.2 (Kd.R_reads' r2).2.1 (Kd.R_reads' r3).2.2 (Kd.R_reads' r3).2.1
  clear hb3 r1 r2 r3 HTO c0 c1 c2 c3 c4
  go_wp2_with fail
  go_at_call 23; refine hs.mono ?_; rintro e w4 ⟨v0, v1, v2, rfl, r1, r2, r3, hb4⟩
  obtain ⟨E1, e1, rfl⟩ := Kd.R_slice r1
  obtain ⟨E2, e2, rfl⟩ := Kd.R_slice r2
  obtain ⟨E3, e3, rfl⟩ := Kd.R_slice r3
  have HA := Aside0.mk (HA.out.below hb4)
  have HB4 := Aside0.mk (below_then HB3.out HB3.out.size hb4)
  have HR1 := Aside0.mk (Kd.R_reads' r1)
  have HR2 := Aside0.mk (Kd.R_reads' r2)
  have HR3 := Aside0.mk (Kd.R_reads' r3)
  clear r1 r2 r3 hb4 hs
  go_upto_region 6 with fail
  obtain ⟨hb4, hc4, hm4, hz4⟩ := two_new w4 #[.slice E1 RF.length e1, .slice E2 RS.length e2, .slice E3 RB.length e3, .int .i64 ra, .int .i64 rb] #[.int .i64 m0, .int .i64 m1]
  generalize ((w4.alloc (.cells #[.slice E1 RF.length e1, .slice E2 RS.length e2, .slice E3 RB.length e3, .int .i64 ra, .int .i64 rb] 32)).alloc (.cells #[.int .i64 m0, .int .i64 m1] 30)) = W4 at hb4 hc4 hm4 hz4 ⊢
  have HA := Aside0.mk (HA.out.below hb4)
  have HB4 := Aside0.mk (below_then HB4.out HB4.out.size hb4)
  have HW : Aside0 (WinC w4.heap.size W4 RF RS RB ra rb) := ⟨⟨E1, e1, E2, e2, E3, e3, hc4, HR1.out.2.1, HR2.out.2.1, HR3.out.2.1, Kd.C_below HR1.out.2.2 hb4, Kd.C_below HR2.out.2.2 hb4, Kd.C_below HR3.out.2.2 hb4⟩⟩
  clear hb4 hc4
  generalize w4.heap.size = p4 at HW hm4 hz4 ⊢
  have HM := Aside0.mk hm4
  have HZ4 := Aside0.mk hz4
  have HA4 := Aside0.mk HA.out
  have HW4 := Aside0.mk HW.out
  have HM4 := Aside0.mk HM.out
  clear hm4 hz4 HR1 HR2 HR3
  obtain ⟨A1, k1, A2, k2, A3, k3, hc, hto⟩ := HTOW.out _ HA.out
  obtain ⟨c0, c1, c2, c3, c4⟩ := cells5 hc
  have HTO := Aside0.mk hto
  clear hc hto
  go_wp2_with fail
  go_at_call 24; refine HTO.out.mono ?_; rintro e w5 ⟨X1, d1, X2, d2, X3, d3, rfl, hb5, r1, r2, r3⟩
  have hb5' : Below w5.heap.size w5 (w5.alloc (.cells #[.slice X1 G1.length d1, .slice X2 G2.length d2, .slice X3 G3.length d3, .int .i64 a, .int .i64 b] 32)) := below_alloc (Below.refl _ _) _
  have hx5 : WinR w5.heap.size W4.heap.size w5.heap.size (w5.alloc (.cells #[.slice X1 G1.length d1, .slice X2 G2.length d2, .slice X3 G3.length d3, .int .i64 a, .int .i64 b] 32)) G1 G2 G3 a b := ⟨X1, d1, X2, d2, X3, d3, blk_new w5 _, Kd.R_below r1 hb5', Kd.R_below r2 hb5', Kd.R_below r3 hb5'⟩
  have hb45 := below_then hb5 hb5.size hb5'
  clear r1 r2 r3 hb5 hb5' HTO c0 c1 c2 c3 c4
  go_upto_region 7 with fail
  generalize (w5.alloc (.cells #[.slice X1 G1.length d1, .slice X2 G2.length d2, .slice X3 G3.length d3, .int .i64 a, .int .i64 b] 32)) = W5 at hx5 hb45 ⊢
  generalize w5.heap.size = p8 at hx5 ⊢
  have HX := Aside0.mk hx5
  have HB45 := Aside0.mk hb45
  have HA := Aside0.mk (HA.out.below hb45)
  have HW := Aside0.mk (HW.out.below hb45)
  have HM := Aside0.mk (blk_below HM.out hb45)
  clear hx5 hb45
  obtain ⟨A1, k1, A2, k2, A3, k3, hc, r1, r2, r3, r4, r5, r6⟩ := HX.out.toC
  obtain ⟨c0, c1, c2, c3, c4⟩ := cells5 hc
  have HS := Aside0.mk (HIMPL.out W5 A1 A2 A3 k1 k2 k3 r4 r1 r5 r2 r6 r3)
  have hp8 := blk_lt hc
  have HP8 := Aside0.mk hp8
  clear hc r1 r2 r3 r4 r5 r6 hp8
  go_wp2_with fail
  go_at_call 11; refine HS.out.mono ?_; rintro e w6 ⟨v0, v1, v2, rfl, r1, r2, r3, hb6⟩
  obtain ⟨E1, e1, rfl⟩ := Kd.R_slice r1
  obtain ⟨E2, e2, rfl⟩ := Kd.R_slice r2
  obtain ⟨E3, e3, rfl⟩ := Kd.R_slice r3
  clear c0 c1 c2 c3 c4 HS
  go_upto_region 8 with fail
  obtain ⟨hb7, hc7, hm7, hz7⟩ := two_new w6 #[.slice E1 RF.length e1, .slice E2 RS.length e2, .slice E3 RB.length e3, .int .i64 ra, .int .i64 rb] #[.int .i64 m0, .int .i64 m1]
  generalize ((w6.alloc (.cells #[.slice E1 RF.length e1, .slice E2 RS.length e2, .slice E3 RB.length e3, .int .i64 ra, .int .i64 rb] 32)).alloc (.cells #[.int .i64 m0, .int .i64 m1] 30)) = W6 at hb7 hc7 hm7 hz7 ⊢
  have hg7 : WinR w6.heap.size W5.heap.size w6.heap.size W6 RF RS RB ra rb := ⟨E1, e1, E2, e2, E3, e3, hc7, Kd.R_below (Kd.R_mono (Kd.R_bound r1) (fun k hk => ⟨hk.2.2.1, hk.1⟩)) hb7, Kd.R_below (Kd.R_mono (Kd.R_bound r2) (fun k hk => ⟨hk.2.2.1, hk.1⟩)) hb7, Kd.R_below (Kd.R_mono (Kd.R_bound r3) (fun k hk => ⟨hk.2.2.1, hk.1⟩)) hb7⟩
  have hb56 := below_then hb6 hb6.size hb7
  have HP9 := Aside0.mk hb6.size
  clear r1 r2 r3 hb6 hb7 hc7
  generalize w6.heap.size = p9 at hg7 hm7 hz7 HP9 ⊢
  have HG := Aside0.mk hg7
  have HMG := Aside0.mk hm7
  have HX := Aside0.mk (HX.out.below hb56)
  have HB56 := Aside0.mk hb56
  have HA := Aside0.mk (HA.out.below hb56)
  have HW := Aside0.mk (HW.out.below hb56)
  have HM := Aside0.mk (blk_below HM.out hb56)
  have HZ7 := Aside0.mk hz7
  clear hg7 hm7 hb56 hz7
  obtain ⟨A1, k1, A2, k2, A3, k3, X1, d1, X2, d2, X3, d3, hc, hc', heq⟩ := eq_win HG.out.toC HW.out (by have := HL.out; omega) (by have := HL.out; omega) (by have := HL.out; omega)
  obtain ⟨c0, c1, c2, c3, c4⟩ := cells5 hc
  obtain ⟨f0, f1, f2, f3, f4⟩ := cells5 hc'
  have HEQ := Aside0.mk heq
  clear hc hc' heq
  go_wp2_with fail
  go_at_call 25; refine HEQ.out.mono ?_; rintro e w8 ⟨rfl, hb8⟩
  have HB68 := Aside0.mk hb8
  have HG := Aside0.mk (HG.out.below hb8)
  have HX := Aside0.mk (HX.out.below hb8)
  have HA := Aside0.mk (HA.out.below hb8)
  have HW := Aside0.mk (HW.out.below hb8)
  have HM := Aside0.mk (blk_below HM.out hb8)
  have HMG := Aside0.mk (blk_below HMG.out hb8)
  clear hb8 c0 c1 c2 c3 c4 f0 f1 f2 f3 f4 HEQ
  obtain ⟨c0, c1⟩ := cells2 HM.out
  obtain ⟨f0, f1⟩ := cells2 HMG.out
  go_wp2_with fail
  go_at_call 26; refine (eq_map m0 m1 w8).mono ?_; rintro e w9 ⟨rfl, hb9⟩
  have HB69 := Aside0.mk (below_then HB68.out HB68.out.size hb9)
  have HG := Aside0.mk (HG.out.below hb9)
  have HX := Aside0.mk (HX.out.below hb9)
  have HA := Aside0.mk (HA.out.below hb9)
  have HW := Aside0.mk (HW.out.below hb9)
  have HM := Aside0.mk (blk_below HM.out hb9)
  have HMG := Aside0.mk (blk_below HMG.out hb9)
  clear hb9 c0 c1 f0 f1 HB68
  go_wp2_with fail
  have hdrew : Below w9.heap.size w9 w9.drew := (Below.refl _ _).drew
  obtain ⟨A1, k1, A2, k2, A3, k3, hc, hto⟩ := HTOW.out w9.drew (HA.out.below hdrew)
  obtain ⟨X1, d1, X2, d2, X3, d3, hc', q1, q2, q3, q4, q5, q6⟩ := HX.out.toC
  have HXC := Aside0.mk hc'
  have HAC := Aside0.mk hc
  have HXR := Aside0.mk (And.intro q1 (And.intro q2 (And.intro q3 (And.intro q4 (And.intro q5 q6)))))
  obtain ⟨c0, c1, c2, c3, c4⟩ := cells5 (show w9.heap[w.heap.size]? = _ from hc)
  obtain ⟨f0, f1, f2, f3, f4⟩ := cells5 hc'
  have HTO := Aside0.mk hto
  clear hc hc' hto hdrew q1 q2 q3 q4 q5 q6
  go_region_held3 (fun w' => w'.cell? ⟨p8, 0, none⟩ = some (.slice X1 G1.length d1) ∧ w'.cell? ⟨p8, 1, none⟩ = some (.slice X2 G2.length d2) ∧ w'.cell? ⟨p8, 2, none⟩ = some (.slice X3 G3.length d3) ∧ w'.cell? ⟨p8, 3, none⟩ = some (.int .i64 a) ∧ w'.cell? ⟨p8, 4, none⟩ = some (.int .i64 b) ∧
    w'.cell? ⟨w.heap.size, 0, none⟩ = some (.slice A1 F.length k1) ∧ w'.cell? ⟨w.heap.size, 1, none⟩ = some (.slice A2 S.length k2) ∧ w'.cell? ⟨w.heap.size, 2, none⟩ = some (.slice A3 B.length k3) ∧ w'.cell? ⟨w.heap.size, 3, none⟩ = some (.int .i64 a) ∧ w'.cell? ⟨w.heap.size, 4, none⟩ = some (.int .i64 b)) (go_keep)
   (first
    | (go_at_call 24; refine HTO.out.mono ?_; rintro e w10 ⟨Y1, z1, Y2, z2, Y3, z3, rfl, hb10, r1, r2, r3⟩; obtain ⟨t0, t1, t2, t3, t4⟩ := cells5 (blk_below (blk_drew HXC.out) hb10); obtain ⟨y0, y1, y2, y3, y4⟩ := cells5 (blk_below HAC.out hb10); have HR1 := Aside0.mk (Kd.R_reads' r1); have HR2 := Aside0.mk (Kd.R_reads' r2); have HR3 := Aside0.mk (Kd.R_reads' r3); have HB10 := Aside0.mk hb10; clear r1 r2 r3 hb10)
    | (go_at_call 25; refine (laws_eqWindow.calls _ X1 d1 G1 X2 d2 G2 X3 d3 G3 a b Y1 z1 G1 Y2 z2 G2 Y3 z3 G3 a b true _ (Kd.C_below HXR.out.2.2.2.1 (below_then ((Below.refl _ w9).drew) (Nat.le_refl _) HB10.out)) HXR.out.1 (Kd.C_below HXR.out.2.2.2.2.1 (below_then ((Below.refl _ w9).drew) (Nat.le_refl _) HB10.out)) HXR.out.2.1 (Kd.C_below HXR.out.2.2.2.2.2 (below_then ((Below.refl _ w9).drew) (Nat.le_refl _) HB10.out)) HXR.out.2.2.1 HR1.out.2.2 HR1.out.2.1 HR2.out.2.2 HR2.out.2.1 HR3.out.2.2 HR3.out.2.1 (eqwin_f G1 G2 G3 a b (by have := HGL.out; omega) (by have := HGL.out; omega) (by have := HGL.out; omega))).mono ?_; rintro e w11 ⟨rfl, hb11⟩; obtain ⟨s0, s1, s2, s3, s4⟩ := cells5 (blk_below (blk_below (blk_drew HXC.out) HB10.out) hb11); obtain ⟨x0, x1, x2, x3, x4⟩ := cells5 (blk_below (blk_below HAC.out HB10.out) hb11); have HB11 := Aside0.mk (below_then ((Below.refl _ w9).drew) (Nat.le_refl _) (below_then HB10.out HB10.out.size hb11)); clear hb11))
  have HXC11 := Aside0.mk (blk_below HXC.out HB11.out)
  clear HXC HAC HXR HR1 HR2 HR3 HB10 HTO c0 c1 c2 c3 c4 f0 f1 f2 f3 f4 t0 t1 t2 t3 t4 y0 y1 y2 y3 y4 s0 s1 s2 s3 s4 x0 x1 x2 x3 x4
  have hb411 : Below W4.heap.size W4 w11 := below_then (below_then (below_then HB45.out HB45.out.size HB56.out) (Nat.le_trans HB45.out.size HB56.out.size) HB69.out) (Nat.le_trans HB45.out.size (Nat.le_trans HB56.out.size HB69.out.size)) HB11.out
  obtain ⟨A1, k1, A2, k2, A3, k3, hc, hmk⟩ := mark_win (w0 := W4) (HX.out.below HB11.out) rfl hb411 (Nat.le_refl _) (by have := HGL.out; omega) (by have := HGL.out; omega) (by have := HGL.out; omega)
  have hee := hc.symm.trans HXC11.out
  simp at hee
  obtain ⟨⟨rfl, rfl⟩, ⟨rfl, rfl⟩, rfl, rfl⟩ := hee
  obtain ⟨c0, c1, c2, c3, c4⟩ := cells5 hc
  have HMK := Aside0.mk hmk
  have HG := Aside0.mk (HG.out.below HB11.out)
  have HMG := Aside0.mk (blk_below HMG.out HB11.out)
  clear hc hmk hb411 HX HA HW HM
  go_wp2_with fail
  go_at_call 27; refine HMK.out.mono ?_; rintro e w12 ⟨rfl, _, hb12, hs12, ho12⟩
  have hp85 := HP8.out
  have hp59 := HP9.out
  have HG := Aside0.mk (HG.out.out_ ho12 (by omega) (by omega))
  have HMG := Aside0.mk (ho12 _ _ HMG.out (Or.inr (by omega)))
  have HA := Aside0.mk (HA4.out.below hb12)
  have HW := Aside0.mk (HW4.out.below hb12)
  have HM := Aside0.mk (blk_below HM4.out hb12)
  have HB412 := Aside0.mk hb12
  clear hb12 hs12 ho12 c0 c1 c2 c3 c4 HMK hp85 hp59
  obtain ⟨A1, k1, A2, k2, A3, k3, X1, d1, X2, d2, X3, d3, hc, hc', heq⟩ := eq_win HG.out.toC HW.out (by have := HL.out; omega) (by have := HL.out; omega) (by have := HL.out; omega)
  obtain ⟨c0, c1, c2, c3, c4⟩ := cells5 hc
  obtain ⟨f0, f1, f2, f3, f4⟩ := cells5 hc'
  have HEQ := Aside0.mk heq
  clear hc hc' heq
  go_wp2_with fail
  go_at_call 25; refine HEQ.out.mono ?_; rintro e w13 ⟨rfl, hb13⟩
  have HG := Aside0.mk (HG.out.below hb13)
  have HM := Aside0.mk (blk_below HM.out hb13)
  have HMG := Aside0.mk (blk_below HMG.out hb13)
  have HB413 := Aside0.mk (below_then HB412.out HB412.out.size hb13)
  clear hb13 c0 c1 c2 c3 c4 f0 f1 f2 f3 f4 HEQ HA HW
  obtain ⟨c0, c1⟩ := cells2 HM.out
  obtain ⟨f0, f1⟩ := cells2 HMG.out
  go_wp2_with fail
  go_at_call 26; refine (eq_map m0 m1 w13).mono ?_; rintro e w14 ⟨rfl, hb14⟩
  have HB414 := Aside0.mk (below_then HB413.out HB413.out.size hb14)
  have HMG := Aside0.mk (blk_below HMG.out hb14)
  obtain ⟨A1, k1, A2, k2, A3, k3, hc, hmk⟩ := mark_win (w0 := W4) ((HG.out.below hb14).lower (HB45.out.size)) rfl HB414.out (Nat.le_refl _) (by have := HL.out; omega) (by have := HL.out; omega) (by have := HL.out; omega)
  clear c0 c1 f0 f1 hb14
  obtain ⟨c0, c1, c2, c3, c4⟩ := cells5 hc
  have HMK := Aside0.mk hmk
  clear hc hmk HG HM
  go_wp2_with fail
  go_at_call 27; refine HMK.out.mono ?_; rintro e w15 ⟨rfl, hgm, hb15, hs15, ho15⟩
  have HGM := Aside0.mk hgm
  have HMG := Aside0.mk (ho15 _ _ HMG.out (Or.inr (by omega)))
  have HB415 := Aside0.mk hb15
  clear hgm hb15 hs15 ho15 c0 c1 c2 c3 c4 HMK
  obtain ⟨A1, k1, A2, k2, A3, k3, hc, hhd⟩ := held_win HGM.out (by have := HL.out; omega) (by have := HL.out; omega) (by have := HL.out; omega)
  obtain ⟨c0, c1, c2, c3, c4⟩ := cells5 hc
  have HHD := Aside0.mk hhd
  clear hc hhd
  go_wp2_with fail
  go_at_call 28; refine HHD.out.mono ?_; rintro e w16 ⟨rfl, hb16⟩
  have HB416 := Aside0.mk (below_then HB415.out HB415.out.size hb16)
  have HGM := Aside0.mk (HGM.out.below hb16)
  have HA := Aside0.mk (HA4.out.below HB416.out)
  clear hb16 c0 c1 c2 c3 c4 HHD
  obtain ⟨A1, k1, A2, k2, A3, k3, hc, hto⟩ := HTOW.out _ HA.out
  obtain ⟨c0, c1, c2, c3, c4⟩ := cells5 hc
  have HTO := Aside0.mk hto
  clear hc hto
  go_wp2_with fail
  go_at_call 24; refine HTO.out.mono ?_; rintro e w17 ⟨X1, d1, X2, d2, X3, d3, rfl, hb17, r1, r2, r3⟩
  have HB417 := Aside0.mk (below_then HB416.out HB416.out.size hb17)
  have HGM := Aside0.mk (HGM.out.below hb17)
  have hs := HIMPL.out w17 X1 X2 X3 d1 d2 d3 (Kd.R_reads' r1).2.2 (Kd.R_reads' r1).2.1 (Kd.R_reads' r2).2.2 (Kd.R_reads' r2).2.1 (Kd.R_reads' r3).2.2 (Kd.R_reads' r3).2.1
  clear hb17 r1 r2 r3 HTO c0 c1 c2 c3 c4
  go_wp2_with fail
  go_at_call 11; refine hs.mono ?_; rintro e w18 ⟨v0, v1, v2, rfl, r1, r2, r3, hb18⟩
  obtain ⟨E1, e1, rfl⟩ := Kd.R_slice r1
  obtain ⟨E2, e2, rfl⟩ := Kd.R_slice r2
  obtain ⟨E3, e3, rfl⟩ := Kd.R_slice r3
  clear hs
  go_upto_region 25 with fail
  obtain ⟨hb19, hc19, hm19, hz19⟩ := two_new w18 #[.slice E1 RF.length e1, .slice E2 RS.length e2, .slice E3 RB.length e3, .int .i64 ra, .int .i64 rb] #[.int .i64 m0, .int .i64 m1]
  generalize ((w18.alloc (.cells #[.slice E1 RF.length e1, .slice E2 RS.length e2, .slice E3 RB.length e3, .int .i64 ra, .int .i64 rb] 32)).alloc (.cells #[.int .i64 m0, .int .i64 m1] 30)) = w19 at hb19 hc19 hm19 hz19 ⊢
  have hh : WinC w18.heap.size w19 RF RS RB ra rb := ⟨E1, e1, E2, e2, E3, e3, hc19, (Kd.R_reads' r1).2.1, (Kd.R_reads' r2).2.1, (Kd.R_reads' r3).2.1, Kd.C_below (Kd.R_reads' r1).2.2 hb19, Kd.C_below (Kd.R_reads' r2).2.2 hb19, Kd.C_below (Kd.R_reads' r3).2.2 hb19⟩
  have hb79 := below_then hb18 hb18.size hb19
  have HB419 := Aside0.mk (below_then HB417.out HB417.out.size hb79)
  have HGM := Aside0.mk (HGM.out.below hb79)
  generalize w18.heap.size = p16 at hh hm19 ⊢
  have HH := Aside0.mk hh
  have HMH := Aside0.mk hm19
  clear r1 r2 r3 hb18 hb19 hc19 hm19 hz19 hh hb79
  have HW := Aside0.mk (HW4.out.below HB419.out)
  have HM := Aside0.mk (blk_below HM4.out HB419.out)
  obtain ⟨A1, k1, A2, k2, A3, k3, X1, d1, X2, d2, X3, d3, hc, hc', heq⟩ := eq_win HH.out HW.out (by have := HL.out; omega) (by have := HL.out; omega) (by have := HL.out; omega)
  obtain ⟨c0, c1, c2, c3, c4⟩ := cells5 hc
  obtain ⟨f0, f1, f2, f3, f4⟩ := cells5 hc'
  have HEQ := Aside0.mk heq
  clear hc hc' heq
  go_wp2_with fail
  go_at_call 25; refine HEQ.out.mono ?_; rintro e w20 ⟨rfl, hb20⟩
  have HB420 := Aside0.mk (below_then HB419.out HB419.out.size hb20)
  have HGM := Aside0.mk (HGM.out.below hb20)
  have HM := Aside0.mk (blk_below HM.out hb20)
  have HMH := Aside0.mk (blk_below HMH.out hb20)
  clear hb20 c0 c1 c2 c3 c4 f0 f1 f2 f3 f4 HEQ
  obtain ⟨c0, c1⟩ := cells2 HM.out
  obtain ⟨f0, f1⟩ := cells2 HMH.out
  go_wp2_with fail
  go_at_call 26; refine (eq_map m0 m1 w20).mono ?_; rintro e w21 ⟨rfl, hb21⟩
  have HB421 := Aside0.mk (below_then HB420.out HB420.out.size hb21)
  have HGM := Aside0.mk (HGM.out.below hb21)
  clear hb21 c0 c1 f0 f1
  obtain ⟨A1, k1, A2, k2, A3, k3, hc, hhd⟩ := held_win HGM.out (by have := HL.out; omega) (by have := HL.out; omega) (by have := HL.out; omega)
  obtain ⟨c0, c1, c2, c3, c4⟩ := cells5 hc
  have HHD := Aside0.mk hhd
  clear hc hhd
  go_wp2_with fail
  go_at_call 28; refine HHD.out.mono ?_; rintro e w22 ⟨rfl, hb22⟩
  have HB422 := Aside0.mk (below_then HB421.out HB421.out.size hb22)
  clear hb22 c0 c1 c2 c3 c4 HHD
  go_wp2_with fail
  go_ret
  exact ⟨rfl, below_then HB4.out HB4.out.size HB422.out⟩
end Go.Proofs.Ytdggcaepdinndaa.Q
end
section
/- What an argument reads as, laid open as a plain value, by its type's shape. -/
namespace Go.Proofs.Ytdggcaepdinndaa.Q
open Go.RowKit Go.Proofs.YtdggcaepdinndaaW.PrintWords
set_option linter.unusedVariables false
set_option linter.unusedSimpArgs false

/-- Whatever reads as type t is a value of kind d. -/
def Opens {α : Type} (P : Program) (W : World) (t : TypeId) (d : Kd α) : Prop :=
 ∀ {H : Type} (enc : TypeId × Value → H) (base : Nat) (spare : Nat → Bool) (held : Bool) (fuel : Nat) (cs : List Value) (x : DataW H × List MemPlace), DataW.trod enc P W base spare held fuel t cs = some x → ∃ y, d.K W y cs
/-- .. a struct's fields, from cell o on. -/
def OpensF {α : Type} (P : Program) (W : World) (o : Nat) (fs : List Field) (d : Kd α) : Prop :=
 ∀ {H : Type} (enc : TypeId × Value → H) (base : Nat) (spare : Nat → Bool) (held : Bool) (n : Nat) (cs : List Value), cs.length = d.sz →
  (∀ (i : Nat) (f : Field), fs[i]? = some f → ∃ x, DataW.trod enc P W base spare held n f.type ((cs.drop (f.offset - o)).take (P.cellsOf f.type)) = some x) → ∃ y, d.K W y cs
namespace Opens
variable {α β : Type} {P : Program} {W : World} {t e : TypeId} {d : Kd α} {k : IntKind}
theorem int (ht : P.underlying t = some (.int k)) : Opens P W t (Kd.int k) := by
 intro H enc base spare held fuel cs x h
 obtain ⟨n, rfl, _, _⟩ := DataW.trod_int ht h
 exact ⟨n, rfl⟩
theorem last {o : Nat} {f : Field} (ho : f.offset = o) (hc : P.cellsOf f.type = d.sz) (h : Opens P W f.type d) : OpensF P W o [f] d := by
 intro H enc base spare held n cs hl hf
 obtain ⟨x, hx⟩ := hf 0 f rfl
 rw [ho, Nat.sub_self, List.drop_zero, hc, ← hl, List.take_length] at hx
 exact h enc base spare held n cs x hx
theorem cons {d1 : Kd β} {o : Nat} {f : Field} {fs : List Field} (ho : f.offset = o) (hc : P.cellsOf f.type = d.sz) (h : Opens P W f.type d) (hr : OpensF P W (o + d.sz) fs d1) (hle : fs.all (fun g => decide (o + d.sz ≤ g.offset)) = true) : OpensF P W o (f :: fs) (Kd.pair d d1) := by
 intro H enc base spare held n cs hl hf
 have hl' : cs.length = d.sz + d1.sz := hl
 obtain ⟨x, hx⟩ := hf 0 f rfl
 rw [ho, Nat.sub_self, List.drop_zero, hc] at hx
 obtain ⟨y, hy⟩ := h enc base spare held n _ x hx
 obtain ⟨z, hz⟩ := hr enc base spare held n (cs.drop d.sz) (by rw [List.length_drop, hl']; omega) (fun i g hg => by
  obtain ⟨x, hx⟩ := hf (i + 1) g (by simpa using hg)
  have hm := List.all_eq_true.1 hle g (List.mem_of_getElem? hg)
  have hm := of_decide_eq_true hm
  rw [List.drop_drop, show d.sz + (g.offset - (o + d.sz)) = g.offset - o from by omega]
  exact ⟨x, hx⟩)
 exact ⟨(y, z), cs.take d.sz, cs.drop d.sz, (List.take_append_drop _ _).symm, hy, hz⟩
theorem struct {fs : Array Field} {f : β → α} {g : α → β} (hfg : ∀ x, f (g x) = x) (ht : P.underlying t = some (.struct fs)) (hc : P.cellsOf t = d.sz) (h : OpensF P W 0 fs.toList d) : Opens P W t (Kd.iso d f) := by
 intro H enc base spare held fuel cs x hx
 obtain ⟨xs, n, _, _, hl, hxl, hf⟩ := DataW.trod_struct ht hx
 obtain ⟨y, hy⟩ := h enc base spare held n cs (by rw [hl, hc]) (fun i f0 hf0 => by
  have hi : i < fs.size := by
   rw [← Array.length_toList]
   exact (List.getElem?_eq_some_iff.1 hf0).1
  have h2 := hf i f0 (by rw [← Array.getElem?_toList]; exact hf0)
  rw [List.getElem?_eq_getElem (by omega)] at h2
  exact ⟨_, by rw [Nat.sub_zero]; exact h2⟩)
 exact ⟨g y, by show d.K W (f (g y)) cs; rw [hfg]; exact hy⟩
theorem choose_list {R : Nat → α → Prop} : ∀ (n : Nat), (∀ i, i < n → ∃ y, R i y) → ∃ ys : List α, ys.length = n ∧ ∀ i y, ys[i]? = some y → R i y
 | 0, _ => ⟨[], rfl, by simp⟩
 | n + 1, h => by
  obtain ⟨ys, hl, hy⟩ := choose_list n (fun i hi => h i (by omega))
  obtain ⟨z, hz⟩ := h n (by omega)
  refine ⟨ys ++ [z], by simp [hl], fun i y hiy => ?_⟩
  by_cases hi : i < n
  ·rw [List.getElem?_append_left (by omega)] at hiy
   exact hy i y hiy
  ·have hi2 : i < n + 1 := by have := (List.getElem?_eq_some_iff.1 hiy).1; simp [hl] at this; omega
   have : i = n := by omega
   subst this
   rw [List.getElem?_append_right (by omega), hl, Nat.sub_self] at hiy
   obtain rfl : z = y := by simpa using hiy
   exact hz
/-- A slice's value and what it reads as. -/
theorem row (ht : P.underlying t = some (.slice e)) (hc : P.cellsOf e = d.sz) (he : Opens P W e d) {H : Type} {enc : TypeId × Value → H} {base : Nat} {spare : Nat → Bool} {held : Bool} {fuel : Nat} {cs : List Value} {x : DataW H × List MemPlace} (h : DataW.trod enc P W base spare held fuel t cs = some x) :
  ∃ (A : Option Addr) (c : Nat) (ys : List α), cs = [.slice A ys.length c] ∧ ys.length ≤ c ∧ c ≤ maxLen ∧ d.C W A ys.length ys := by
 rcases Go.Deep.open_slice ht h with ⟨rfl, _⟩ | ⟨a, len, cap, m, n, D, Pl, rfl, hb, hl, hm, hmm, rfl, hx⟩
 ·exact ⟨none, 0, [], rfl, Nat.le_refl _, Nat.zero_le _, rfl, by simp, fun h => absurd h (by simp)⟩
 ·have hlm : len ≤ m := by rw [hmm]; split <;> omega
  obtain ⟨ys, hyl, hys⟩ := choose_list (R := fun i y => ∃ c : List Value, c.length = d.sz ∧ d.K W y c ∧ ∀ j u, c[j]? = some u → W.cell? (a.add (i * d.sz + j)) = some u) len (fun i hi => by
   obtain ⟨cs', h1, h2⟩ := hx i (by omega)
   obtain ⟨_, hlen, hcell⟩ := World.cells?_some h1
   obtain ⟨y, hy⟩ := he enc base spare held n cs' _ h2
   refine ⟨y, cs', by rw [hlen, hc], hy, fun j u hu => ?_⟩
   have hj := (List.getElem?_eq_some_iff.1 hu).1
   have h3 := hcell j (by omega)
   rw [Go.Deep.add_add, hc] at h3
   rw [h3, hu])
  subst hyl
  refine ⟨some a, cap, ys, rfl, hl, hm, rfl, by simp only [maxLen] at hm; omega, fun _ => ⟨a, rfl, fun j p hj => hys j p hj⟩⟩
theorem slice (ht : P.underlying t = some (.slice e)) (hc : P.cellsOf e = d.sz) (he : Opens P W e d) : Opens P W t (Kd.slice e d) := by
 intro H enc base spare held fuel cs x h
 obtain ⟨A, c, ys, rfl, hl, _, hr⟩ := row ht hc he h
 exact ⟨ys, A, c, rfl, hl, hr⟩
end Opens
end Go.Proofs.Ytdggcaepdinndaa.Q
end
section
/- Whatever the input, FnExactPopMap returns true, and its argument reads as it did. No condition. -/
namespace Go.Proofs.Ytdggcaepdinndaa.Q
open Go.ChangeShapes Go.WideShapes Go.ChangeAt Go.RowKit Go.Proofs.YtdggcaepdinndaaW.PrintWords
set_option linter.unusedVariables false
theorem opens50 (W : World) : Opens Try.prog W 50 k50 :=
 Opens.struct (g := fun x => ⟨x.1, x.2⟩) (fun _ => rfl) Try.underlying50 (by kernel_rfl) (Opens.cons rfl (by kernel_rfl) (Opens.int (by kernel_rfl)) (Opens.last rfl (by kernel_rfl) (Opens.int (by kernel_rfl))) (by decide))
def kW : Kd (List S50 × List S50 × List S50 × S50) := Kd.pair (Kd.slice 50 k50) (Kd.pair (Kd.slice 50 k50) (Kd.pair (Kd.slice 50 k50) k50))
theorem opens52 (W : World) : Opens Try.prog W 52 (Kd.iso kW id) :=
 Opens.struct (g := id) (fun _ => rfl) Try.underlying52 (by kernel_rfl) (Opens.cons rfl (by kernel_rfl) (Opens.slice (by kernel_rfl) (by kernel_rfl) (opens50 W)) (Opens.cons rfl (by kernel_rfl) (Opens.slice (by kernel_rfl) (by kernel_rfl) (opens50 W)) (Opens.cons rfl (by kernel_rfl) (Opens.slice (by kernel_rfl) (by kernel_rfl) (opens50 W)) (Opens.last rfl (by kernel_rfl) (opens50 W)) (by decide)) (by decide)) (by decide))
theorem own : ownKnob Try.prog.godebug = none := by kernel_rfl
theorem laidOut : laidOutB Try.prog = true := by kernel_rfl
set_option maxRecDepth 100000 in
theorem lifted (os : Os) (started : os.Started) (H : Type) (enc : TypeId × Value → H) :
  ReturnsInHanded {} Try.checked os 4 .any (Rows.fnExactPopMapSpec.pre6 enc Try.prog Try.f4 Rows.fnExactPopMapRow.domain false) (Rows.fnExactPopMapSpec.post enc Try.prog Try.f4 false true false false) := by
 refine returnsInHanded_of_change_sized (C := Try.checked) own started (by kernel_rfl) Try.func4
  (ChangeSpec.witness6 (enc := enc) (C := Try.checked) false ⟨#[], #[.agg #[.slice none 0 0, .slice none 0 0, .slice none 0 0, .int .i64 0, .int .i64 0]], []⟩ 8 (by kernel_rfl) (by kernel_rfl) (by kernel_rfl) (by kernel_rfl)) ?_
 intro W base args ds gs before hval0 hW hcnd hsz0 _
 have hval : ∀ (j : Nat) t v, Try.f4.params[j]? = some t → args[j]? = some v → Value.okWide Try.prog W .any base t v := hval0
 have hW' := hW
 obtain ⟨p, q, hA0, hV, rfl, hfz, hnd⟩ := hW
 have hA : DataW.TrodAll enc Try.prog W 0 (fun _ => true) true Try.f4.params.toList args.toList ds p := hA0
 rw [Try.params4] at hA hval
 obtain ⟨v0, vs0, d0, ds0, p0, q0, hargs, rfl, rfl, h0, r0⟩ := trodAll_cons hA
 obtain ⟨rfl, rfl, rfl⟩ := trodAll_nil r0
 obtain rfl : args = #[v0] := by cases args; simp_all
 obtain ⟨rfl, rfl⟩ := trodVars_none hV
 obtain ⟨cs, rfl, _⟩ := okWide_struct Try.underlying52 (hval 0 52 v0 rfl rfl)
 have k0 := h0
 have lt0 : ∀ x ∈ p0, x.block < W.heap.size := by obtain ⟨m, hm⟩ := k0; exact DataW.trod_lt m _ _ _ hm
 obtain ⟨A1, c1, A2, c2, A3, c3, F, S, B, a, b, rfl, h1, h2, h3, h4, h5, h6⟩ : ∃ A1 c1 A2 c2 A3 c3, ∃ (F S B : List S50) (a b : Int), cs = #[.slice A1 F.length c1, .slice A2 S.length c2, .slice A3 B.length c3, .int .i64 a, .int .i64 b] ∧ F.length ≤ c1 ∧ S.length ≤ c2 ∧ B.length ≤ c3 ∧ Kd.C k50 W A1 F.length F ∧ Kd.C k50 W A2 S.length S ∧ Kd.C k50 W A3 B.length B := by
  obtain ⟨fuel, hf⟩ := h0
  obtain ⟨⟨F, S, B, s⟩, y0, y1, e1, ⟨A1, c1, rfl, l1, r1⟩, y2, y3, rfl, ⟨A2, c2, rfl, l2, r2⟩, y4, y5, rfl, ⟨A3, c3, rfl, l3, r3⟩, h⟩ := opens52 W enc 0 (fun _ => true) true fuel _ _ hf
  obtain rfl := k50_open h
  refine ⟨A1, c1, A2, c2, A3, c3, F, S, B, s.f0, s.f1, ?_, l1, l2, l3, r1, r2, r3⟩
  have e2 : cs.toList = _ := e1
  cases cs
  simpa using e2
 clear hA0 hval0 hsz0
 refine (law_popmap A1 A2 A3 c1 c2 c3 F S B a b W h1 h2 h3 h4 h5 h6).mono fun e W' ⟨he, bel⟩ => ?_
 subst he
 exact ⟨_, rfl, _, _, _, [], _, [], hW', trodAll_mk1 (shut_bool Try.underlying4 _), (trodAll_cons_mk (Below.trod laidOut (by kernel_rfl) (of_decide_eq_true (by kernel_rfl)) k0 bel lt0) trodAll_mk0), rfl, bel.frame _, fun h => by cases h⟩
theorem over : Rows.fnExactPopMapRow.holds Try.pinned (OpenSpec.ofChange Rows.fnExactPopMapSpec) :=
 OpenClaim.holds_of_wide 4 Try.f4 rfl rfl rfl rfl rfl rfl rfl ⟨rfl, rfl, rfl, rfl, rfl⟩ rfl rfl rfl rfl rfl (by kernel_rfl) Try.func4 (by kernel_rfl)
  (of_decide_eq_true (by kernel_rfl)) (by unfold Func.isWrapper; first | (rw [if_pos (by decide +kernel)]; kernel_rfl) | (rw [if_neg (by decide +kernel)]; exact ⟨rfl, rfl⟩))
  (fun os started H enc _ => lifted os started H enc)
end Go.Proofs.Ytdggcaepdinndaa.Q
namespace Go.Proofs.Ytdggcaepdinndaa
/-- The row, under a short name. -/
theorem fnExactPopMap_holds : Rows.FnExactPopMapSaid := Q.over
end Go.Proofs.Ytdggcaepdinndaa
end
