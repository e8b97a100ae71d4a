/- Whatever the input, FnExactGroupFor returns true, and its arguments read as they did. No condition. -/
import Derived.Deep.Slices
import Derived.ChangeArms
import Derived.OpenShut
import Derived.Test.YtbnmkikifjidjaaRows
import Derived.WalkKit
import Derived.ProofKit
import Derived.ChangeOld
import Derived.Below
import Derived.SizedLaws
import Derived.Test.YtbnmkikifjidjaaY1
import Derived.Test.YtbnmkikifjidjaaY2
import Derived.Test.YtbnmkikifjidjaaY3
section
/- Contracts of a function, printed for this claim by a program of ours over the kit's print. -/
namespace Go.Proofs.Ytbnmkikifjidjaa.Q
open Go.RowKit Go.Proofs.YtbnmkikifjidjaaW.PrintWords Go.Proofs.YtbnmkikifjidjaaW.PrintLast Go.Proofs.YtbnmkikifjidjaaW.PrintMore
attribute [local go_sem] max2_int min2_int max_two min_two max_three min_three max_four min_four   -- for this text's walks alone
set_option linter.unusedVariables false
set_option linter.unusedSimpArgs false

/-! ### laws_toGroupS: function 9 -/
def laws_toGroupS.l0 : Nat → List (S75) → List (S30) → Int → Option ((List (S30)))
 | 0, _, _, _ => none
 | k + 1, x0, x3, x4 => if x4 < (x0.length : Int) then (if 0 ≤ x4 then ((laws_toGroup.f k ((rd_T75 x0 x4).f0.f0) ((rd_T75 x0 x4).f1) ((rd_T75 x0 x4).f2)).bind fun bt105 => (if x4 < (x3.length : Int) then (laws_toGroupS.l0 k x0 (x3.set (x4 : Int).toNat (⟨(⟨bt105.1⟩ : S28), bt105.2.1, bt105.2.2⟩ : S30)) (wrap64 (x4 + 1))) else (none))) else (none)) else (some x3)
def laws_toGroupS.f (k : Nat) (l0 : List (S75)) : Option ((List (S30))) := if 0 ≤ (l0.length : Int) then (if ((l0.length : Int) : Int).toNat ≤ 7036874417766 then (laws_toGroupS.l0 k l0 (List.replicate ((l0.length : Int) : Int).toNat z30) 0) else (none)) else (none)
set_option maxHeartbeats 8000000 in
set_option maxRecDepth 100000 in
theorem laws_toGroupS.calls (k : Nat) (A0 : Option Addr) (c0 : Nat) (l0 : List (S75)) (r : List (S30)) (w : World) (hr0 : Kd.C k75 w A0 l0.length l0) (hc0 : l0.length ≤ c0) (h : laws_toGroupS.f k l0 = some r) :
  Calls Try.prog 9 #[.slice A0 l0.length c0] w fun e w' => ∃ v0_ : Value, e = .returned (v0_) ∧ Kd.S k30 30 w' w.heap.size (fun _ => True) v0_ r ∧ Below w.heap.size w w' := by
 have hu75 := Try.underlying75
 have hu30 := Try.underlying30
 have HR0 := Aside0.mk hr0
 have HC0 := Aside0.mk hc0
 clear hr0 hc0
 have HB := Aside0.mk (Below.refl w.heap.size w)
 have H : (if 0 ≤ (l0.length : Int) then (if ((l0.length : Int) : Int).toNat ≤ 7036874417766 then (laws_toGroupS.l0 k l0 (List.replicate ((l0.length : Int) : Int).toNat z30) 0) else (none)) else (none)) = some r := h
 clear h
 by_cases c2 : 0 ≤ (l0.length : Int)
 ·rw [if_pos c2] at H
  have c2b0 := eq_true c2
  have c2b1 : decide (0 ≤ (l0.length : Int)) = true := decide_eq_true c2
  clear c2
  by_cases c3 : ((l0.length : Int) : Int).toNat ≤ 7036874417766
  ·rw [if_pos c3] at H
   have c3b0 := eq_true c3
   have c3b1 : decide (((l0.length : Int) : Int).toNat ≤ 7036874417766) = true := decide_eq_true c3
   clear c3
   obtain ⟨y101, hy101⟩ : ∃ y_ : List (S30), y_ = (List.replicate ((l0.length : Int) : Int).toNat z30) := ⟨_, rfl⟩
   replace H : (laws_toGroupS.l0 k l0 y101 0) = some r := by first | (rw [hy101]; with_reducible exact H) | (have H2_ := (Option.bind_some _ _).symm.trans H; rw [hy101]; with_reducible exact H2_) | (have H2_ := (Option.bind_some _ _).symm.trans H; with_reducible exact H2_) | with_reducible exact H | (rw [hy101]; exact H) | exact H
   have Ny101 := Aside0.mk hy101
   clear hy101
   have H' := Aside0.mk H
   clear H
   go_enter Try.func9, Try.ntmps9
   go_wp2_with (first | ((with_reducible refine gate_dst (N := 7) rfl ?_); refine Kd.S_make k30 _ 30 rfl (N := 7) rfl 33 _ _ rfl (l0.length : Int) rfl rfl Try.underlying33 (.agg #[(.slice none 0 0), (.int .i64 0), (.int .i64 0)]) 40 info30 rfl (by decide) (by omega) z30 (ok := fun _ => True) (okp := fun _ => True) (k30_mkM _ _ _ z30 (Kd.R_nil _ _ _ _ _)) (fun _ hk => hk) trivial (of_decide_eq_true (by first | (with_reducible assumption) | assumption)) (Nat.le_trans (Nat.mul_le_mul_right _ (of_decide_eq_true (by first | (with_reducible assumption) | assumption) : (l0.length : Int).toNat ≤ 7036874417766)) (by omega)) (Below.refl _ _) (Nat.le_refl _) ?_; intro v102 w4 ho5 hb hg_ hnew_; clear hg_ hnew_; (first | rw [← Ny101.out] at ho5 | (simp only [Int.reduceToNat] at ho5; rw [← Ny101.out] at ho5)); have n0_ := Aside0.mk (Kd.S_lower ho5 (below_size (by repeat (first | (with_reducible first | exact HB.out | apply below_alloc | apply pw_below_drewN | apply below_drew1) | exact HB.out)))); have n1_ := Aside0.mk (below_step (by repeat (first | (with_reducible first | exact HB.out | apply below_alloc | apply pw_below_drewN | apply below_drew1) | exact HB.out)) hb); clear HB; have HO103 := n0_; have HB := n1_; clear n0_ n1_; clear hb ho5))
   go_loopg [4] k (fun kq v4 w' => ∃ (x3_1 : List (S30)) (x4_1 : Int), v4 = .int .i64 x4_1 ∧ Aside0 (laws_toGroupS.l0 kq l0 x3_1 x4_1 = some r) ∧ Aside0 (kq ≤ k) ∧ Aside0 (Kd.S k30 30 w' w.heap.size (fun _ => True) v102 x3_1) ∧ Aside0 (Below w.heap.size w w'))
   case atStart => exact ⟨(y101), (0), (by first | rfl | (simp; done) | (simp [*]; done)), H', ⟨Nat.le_refl _⟩, ⟨by (with_reducible repeat (first | apply Kd.S_alloc | apply Kd.S_drewN | apply Kd.S_drew)); exact HO103.out⟩, ⟨by repeat (first | (with_reducible first | exact HB.out | apply below_alloc | apply pw_below_drewN | apply below_drew1) | exact HB.out)⟩⟩
   case round =>
    clear H'
    try clear c2
    try clear c2b0
    try clear c2b1
    try clear p2
    try clear c3
    try clear c3b0
    try clear c3b1
    obtain ⟨x3_1, x4_1, rfl, HA, HK1, HO_3, HB⟩ := hrel
    cases gk with
    | zero => exact absurd HA.out (by simp [laws_toGroupS.l0])
    | succ k1 =>
     have H := HA.out
     clear HA
     simp only [laws_toGroupS.l0] at H
     by_cases c6 : x4_1 < (l0.length : Int)
     ·rw [if_pos c6] at H
      have c6b0 : decide (x4_1 < (l0.length : Int)) = true := decide_eq_true c6
      clear c6
      by_cases c7 : 0 ≤ x4_1
      ·rw [if_pos c7] at H
       have c7b0 : decide (0 ≤ x4_1) = true := decide_eq_true c7
       clear c7
       replace H := Option.bind_eq_some_iff.mp H
       obtain ⟨⟨t105, t108, t109⟩, A80, H⟩ := H
       replace H : (if x4_1 < (x3_1.length : Int) then (laws_toGroupS.l0 k1 l0 (x3_1.set (x4_1 : Int).toNat (⟨(⟨t105⟩ : S28), t108, t109⟩ : S30)) (wrap64 (x4_1 + 1))) else (none)) = some r := H
       have A8 := Aside0.mk A80
       clear A80
       by_cases c9 : x4_1 < (x3_1.length : Int)
       ·rw [if_pos c9] at H
        have c9b0 : decide (x4_1 < (x3_1.length : Int)) = true := decide_eq_true c9
        clear c9
        obtain ⟨y110, hy110⟩ : ∃ y_ : List (S30), y_ = (x3_1.set (x4_1 : Int).toNat (⟨(⟨t105⟩ : S28), t108, t109⟩ : S30)) := ⟨_, rfl⟩
        replace H : (laws_toGroupS.l0 k1 l0 y110 (wrap64 (x4_1 + 1))) = some r := by first | (rw [hy110]; with_reducible exact H) | (have H2_ := (Option.bind_some _ _).symm.trans H; rw [hy110]; with_reducible exact H2_) | (have H2_ := (Option.bind_some _ _).symm.trans H; with_reducible exact H2_) | with_reducible exact H | (rw [hy110]; exact H) | exact H
        have Ny110 := Aside0.mk hy110
        clear hy110
        have H' := Aside0.mk H
        clear H
        have p104 : 0 ≤ (x4_1 : Int) := of_decide_eq_true (by first | (with_reducible assumption) | assumption)
        have q104 : x4_1 < (l0.length : Int) := of_decide_eq_true (by first | (with_reducible assumption) | assumption)
        obtain ⟨ad104, A104_0, c104_0, e104, hx104_0, hx104_1, hx104_2, hl104_0, hi104_0⟩ := at_T75 HR0.out x4_1 p104 q104
        cases e104
        replace hx104_0 := (HB.out.cell (World.block_lt_of_cell? w _ hx104_0)).trans hx104_0
        replace hx104_1 := (HB.out.cell (World.block_lt_of_cell? w _ hx104_1)).trans hx104_1
        replace hx104_2 := (HB.out.cell (World.block_lt_of_cell? w _ hx104_2)).trans hx104_2
        have HR104_0 := Aside0.mk hi104_0
        have HC104_0 := Aside0.mk hl104_0
        clear hi104_0 hl104_0
        replace p104 := eq_true p104
        replace q104 := eq_true q104
        go_wp2_with (first | ((with_reducible refine gate_callee (f := 42) rfl ?_); refine goesL_ (some 20) rfl rfl Try.func42 (by kernel_rfl) rfl #[.agg #[.slice A104_0 ((rd_T75 l0 x4_1).f0.f0).length c104_0, .int .i64 ((rd_T75 l0 x4_1).f1), .int .i64 ((rd_T75 l0 x4_1).f2)]] rfl (by (try simp only [List.map_toArray, List.map_cons, List.map_nil]); first | done | rfl | (simp only [List.length_drop, List.length_take]; rfl)) ?_; (with_reducible refine (laws_toGroup.calls k1 _ _ ((rd_T75 l0 x4_1).f0.f0) ((rd_T75 l0 x4_1).f1) ((rd_T75 l0 x4_1).f2) t105 t108 t109 _ ?side1 ?side2 A8.out).mono ?_); (case side1 => repeat (first | exact (Kd.C_below HR104_0.out HB.out) | (with_reducible refine Kd.C_alloc ?_ _) | (with_reducible refine Kd.C_drewN ?_ _) | (with_reducible refine Kd.C_drew ?_))); (case side2 => exact HC104_0.out); rintro e w11 ⟨v106, rfl, ho0, hb⟩; have stv106_ := st_row_ ho0; refine ⟨_, rfl, ?_⟩; have n0_ := Aside0.mk (Kd.S_elder' (by (with_reducible repeat (first | apply Kd.S_alloc | apply Kd.S_drewN | apply Kd.S_drew)); exact HO_3.out) (Kd.R_base ho0) hb); have n1_ := Aside0.mk (Kd.R_lower ho0 (below_size (by repeat (first | (with_reducible first | exact HB.out | apply below_alloc | apply pw_below_drewN | apply below_drew1) | exact HB.out)))); have n2_ := Aside0.mk (below_step (by repeat (first | (with_reducible first | exact HB.out | apply below_alloc | apply pw_below_drewN | apply below_drew1) | exact HB.out)) hb); clear HO_3; clear HB; have HO_3 := n0_; have HO107 := n1_; have HB := n2_; clear n0_ n1_ n2_; (try clear hb); (try clear hb2); (try clear hk); (try clear hi); (try clear ho0); have p10 : 0 ≤ (x4_1 : Int) := of_decide_eq_true (by first | (with_reducible assumption) | assumption); have q10 : (x4_1 : Int) < ((x3_1.length : Int) : Int) := of_decide_eq_true (by first | (with_reducible assumption) | assumption); obtain ⟨go10, co10, eo10, gb10, gl10, cl10, HG10⟩ := Kd.S_form HO_3.out (by omega); (first | cases eo10 | (injection eo10 with ea_ en_ ec_; (first | subst ea_ | (injection ea_ with ea_; subst ea_)); subst ec_; clear en_)); have GB10 := Aside0.mk gb10; have GG10 := Aside0.mk HG10; clear gb10 gl10 HG10; obtain ⟨_, ce10, hcl10, hM10, hcc10, hfr10, _, _⟩ := Kd.S_elem HO_3.out z30 (x4_1 : Int) p10 q10; obtain ⟨ve10_0, rfl, ge10_0⟩ := k30_openM hM10; have hx10_0 : w11.cell? ⟨go10, (x4_1 : Int).toNat * 3, none⟩ = some (ve10_0) := hcc10 0 _ rfl; have hx10_1 : w11.cell? ⟨go10, (x4_1 : Int).toNat * 3 + 1, none⟩ = some (.int .i64 ((rd_T30 x3_1 x4_1).f1)) := hcc10 1 _ rfl; have hx10_2 : w11.cell? ⟨go10, (x4_1 : Int).toNat * 3 + 2, none⟩ = some (.int .i64 ((rd_T30 x3_1 x4_1).f2)) := hcc10 2 _ rfl; have hf10_0 : w11.frozen? ⟨go10, (x4_1 : Int).toNat * 3, none⟩ = false := hfr10 0; have hf10_1 : w11.frozen? ⟨go10, (x4_1 : Int).toNat * 3 + 1, none⟩ = false := hfr10 1; have hf10_2 : w11.frozen? ⟨go10, (x4_1 : Int).toNat * 3 + 2, none⟩ = false := hfr10 2; clear hcl10 hcc10 hfr10 hM10; replace p10 := eq_true p10; replace q10 := eq_true q10; have n_ := Aside0.mk (Kd.S_mono (ok' := (fun k_ => some k_ ≠ (v106 : Value).ownBlock)) HO_3.out (fun k_ hk => hk.2)); clear HO_3; have HO_3 := n_; clear n_; have HX12 := Aside0.mk (show Kd.S k30 30 w11 w.heap.size (fun k_ => ((fun _ => True)) k_ ∧ ¬ ((fun k_ => some k_ = (v106 : Value).ownBlock)) k_) (.slice (some ⟨go10, 0, none⟩) x3_1.length co10) x3_1 from (by (with_reducible repeat (first | apply Kd.S_alloc | apply Kd.S_drewN | apply Kd.S_drew)); exact Kd.S_mono HO_3.out (fun k_ hk => ⟨trivial, fun e_ => hk e_⟩))); obtain ⟨oki12, ce12, hcl12, hM12, hcc12, hfr12, hoki12, hH12⟩ := Kd.S_elem HX12.out z30 (x4_1 : Int) (of_decide_eq_true (by first | (with_reducible assumption) | assumption)) (by have h_ : (x4_1 : Int) < ((x3_1.length : Int) : Int) := of_decide_eq_true (by first | (with_reducible assumption) | assumption); first | exact h_ | (have e_ := (Kd.S_reads' HO_3.out).1; omega) | simpa using h_); obtain ⟨ve12_0, rfl, ge12_0⟩ := k30_openM hM12; have HP12 := Kd.S_seg hH12 (of_decide_eq_true (by first | (with_reducible assumption) | assumption)) (by have h_ : (x4_1 : Int) < ((x3_1.length : Int) : Int) := of_decide_eq_true (by first | (with_reducible assumption) | assumption); first | exact h_ | (have e_ := (Kd.S_reads' HO_3.out).1; omega) | simpa using h_) (seg := [v106, .int .i64 t108, .int .i64 t109]) (j := 0) (show 3 ≤ 3 from by decide) (x' := (⟨(⟨t105⟩ : S28), t108, t109⟩ : S30)) (k30_mkM _ _ _ (⟨(⟨t105⟩ : S28), t108, t109⟩ : S30) (Kd.R_mono (Kd.R_tight rfl (Kd.R_mono (ok' := fun k_ => ((fun _ => True)) k_ ∧ k_ ≠ go10) (Kd.R_apart' (HO107.out) (Kd.S_typed HO_3.out) (by decide)) (fun k_ hk => ⟨trivial, fun e_ => (hk.2) (by rw [e_]; rfl)⟩))) (fun _ h_ => Or.inr (h_)))) (fun _ hk => hk) (fun k_ hk_ => ((Kd.R_mono (ok' := fun k_ => ((fun _ => True)) k_ ∧ k_ ≠ go10) (Kd.R_apart' (HO107.out) (Kd.S_typed HO_3.out) (by decide)) (fun k_ hk => ⟨trivial, fun e_ => (hk.2) (by rw [e_]; rfl)⟩))).1 k_ hk_.symm); have hx12_0 := hcc12 0 _ rfl; (try simp only [show (k30).sz = 3 from rfl, Nat.mul_one, Nat.add_zero] at hx12_0); have hf12_0 := hfr12 0; (try simp only [show (k30).sz = 3 from rfl, Nat.mul_one, Nat.add_zero] at hf12_0); have hx12_1 := hcc12 1 _ rfl; (try simp only [show (k30).sz = 3 from rfl, Nat.mul_one, Nat.add_zero] at hx12_1); have hf12_1 := hfr12 1; (try simp only [show (k30).sz = 3 from rfl, Nat.mul_one, Nat.add_zero] at hf12_1); have hx12_2 := hcc12 2 _ rfl; (try simp only [show (k30).sz = 3 from rfl, Nat.mul_one, Nat.add_zero] at hx12_2); have hf12_2 := hfr12 2; (try simp only [show (k30).sz = 3 from rfl, Nat.mul_one, Nat.add_zero] at hf12_2); clear hcl12 hcc12 hfr12 hM12 hoki12 hH12) | ((with_reducible refine gate_store (t := 30) (p := 21) rfl ?_); refine store_event (t := 30) (p := 21) (v := ?vo_w13) (w1 := (((w11.setCell ⟨go10, (x4_1 : Int).toNat * 3, none⟩ (v106)).setCell ⟨go10, (x4_1 : Int).toNat * 3 + 1, none⟩ (.int .i64 t108)).setCell ⟨go10, (x4_1 : Int).toNat * 3 + 2, none⟩ (.int .i64 t109))) ?hg ?ho ?hn ?hr ?_; (case ho => rfl); (case hg => rfl); (case hn => rfl); (case hr => first | (go_simp; done) | (go_simp; rfl)); intro w13 hw; have hg : w11.grownBy w13 (some go10) := (by rw [hw]; exact HP12.2); have hp_ : Kd.S k30 30 w13 w.heap.size (fun _ => True) (.slice (some ⟨go10, 0, none⟩) x3_1.length co10) y110 := (by rw [hw, Ny110.out]; exact HP12.1); clear HP12; have n0_ := Aside0.mk (hp_); have n1_ := Aside0.mk ((by rw [hw]; exact below_set (below_set (below_set (HB.out) GB10.out) GB10.out) GB10.out : Below w.heap.size w w13)); clear HO_3; clear HB; clear HO107; have HO_3 := n0_; have HB := n1_; clear n0_ n1_; clear hg hw hp_))
        go_roundg k1
        case measure => have := HK1.out; omega
        case rel => exact ⟨(y110), (wrap64 (x4_1 + 1)), (by first | rfl | (simp; done) | (simp [*]; done)), H', ⟨by have := HK1.out; omega⟩, ⟨by (with_reducible repeat (first | apply Kd.S_alloc | apply Kd.S_drewN | apply Kd.S_drew)); exact HO_3.out⟩, ⟨by repeat (first | (with_reducible first | exact HB.out | apply below_alloc | apply pw_below_drewN | apply below_drew1) | exact HB.out)⟩⟩
       ·rw [if_neg c9] at H
        exact absurd H (by simp)
      ·rw [if_neg c7] at H
       exact absurd H (by simp)
     ·rw [if_neg c6] at H
      have c6b0 : decide (x4_1 < (l0.length : Int)) = false := decide_eq_false c6
      clear c6
      obtain rfl := Option.some.inj H
      go_wp2
      go_ret
      exact ⟨_, by first | rfl | (simp [errW_none, errW_some] <;> rfl) | (simp [*, errW_none, errW_some] <;> rfl), by (with_reducible repeat (first | apply Kd.S_alloc | apply Kd.S_drewN | apply Kd.S_drew)); exact HO_3.out, by repeat (first | (with_reducible first | exact HB.out | apply below_alloc | apply pw_below_drewN | apply below_drew1) | exact HB.out)⟩
  ·rw [if_neg c3] at H
   exact absurd H (by simp)
 ·rw [if_neg c2] at H
  exact absurd H (by simp)

end Go.Proofs.Ytbnmkikifjidjaa.Q
end
section
/- Contracts of a function, printed for this claim by a program of ours over the kit's print. -/
namespace Go.Proofs.Ytbnmkikifjidjaa.Q
open Go.RowKit Go.Proofs.YtbnmkikifjidjaaW.PrintWords Go.Proofs.YtbnmkikifjidjaaW.PrintLast Go.Proofs.YtbnmkikifjidjaaW.PrintMore
attribute [local go_sem] max2_int min2_int max_two min_two max_three min_three max_four min_four   -- for this text's walks alone
set_option linter.unusedVariables false
set_option linter.unusedSimpArgs false

/-! ### laws_eqIntS: function 49 -/
def laws_eqIntS.l0 : Nat → List Int → List Int → Int → Option (Bool)
 | 0, _, _, _ => none
 | k + 1, x0, x1, x5 => if x5 < (x0.length : Int) then (if 0 ≤ x5 then (if x5 < (x1.length : Int) then (if (rd x0 x5) = (rd x1 x5) then (laws_eqIntS.l0 k x0 x1 (wrap64 (x5 + 1))) else (some false)) else (none)) else (none)) else (some true)
def laws_eqIntS.f (k : Nat) (l0 : List Int) (l1 : List Int) : Option (Bool) := if (l0.length : Int) = (l1.length : Int) then (laws_eqIntS.l0 k l0 l1 0) else (some false)
set_option maxHeartbeats 8000000 in
set_option maxRecDepth 100000 in
theorem laws_eqIntS.calls (k : Nat) (A0 : Option Addr) (c0 : Nat) (l0 : List Int) (A1 : Option Addr) (c1 : Nat) (l1 : List Int) (r : Bool) (w : World) (hr0 : Kd.C (Kd.int .i64) w A0 l0.length l0) (hc0 : l0.length ≤ c0) (hr1 : Kd.C (Kd.int .i64) w A1 l1.length l1) (hc1 : l1.length ≤ c1) (h : laws_eqIntS.f k l0 l1 = some r) :
  Calls Try.prog 49 #[.slice A0 l0.length c0, .slice A1 l1.length c1] w fun e w' => e = .returned (.bool r) ∧ Drawn0 w w' := by
 have HR0 := Aside0.mk hr0
 have HC0 := Aside0.mk hc0
 clear hr0 hc0
 have HR1 := Aside0.mk hr1
 have HC1 := Aside0.mk hc1
 clear hr1 hc1
 have H : (if (l0.length : Int) = (l1.length : Int) then (laws_eqIntS.l0 k l0 l1 0) else (some false)) = some r := h
 clear h
 by_cases c3 : (l0.length : Int) = (l1.length : Int)
 ·rw [if_pos c3] at H
  have c3b0 : ((l0.length : Int) == (l1.length : Int)) = true := beq_iff_eq.mpr c3
  have c3b1 : ((l0.length : Int) != (l1.length : Int)) = false := bne_eq_false_iff_eq.mpr c3
  have c3b2 : (l0.length == l1.length) = true := by first | simpa using c3 | (simp at c3 ⊢; omega)
  clear c3
  have H' := Aside0.mk H
  clear H
  go_enter Try.func49, Try.ntmps49
  go_wp2
  repeat (go_quiet (fail); try go_wp2)
  go_loopg [5] k (fun kq v5 w' => ∃ (x5_1 : Int), v5 = .int .i64 x5_1 ∧ Aside0 (laws_eqIntS.l0 kq l0 l1 x5_1 = some r) ∧ Aside0 (kq ≤ k) ∧ Drawn0 w w')
  case atStart => exact ⟨(0), (by first | rfl | (simp; done) | (simp [*]; done)), H', ⟨Nat.le_refl _⟩, by repeat (first | exact Drawn0.refl _ | apply Drawn0.step)⟩
  case round =>
   clear H'
   try clear c1
   try clear p2
   try clear c3
   try clear c3b0
   try clear c3b1
   try clear c3b2
   obtain ⟨x5_1, rfl, HA, HK1, ⟨m1, rfl⟩⟩ := hrel
   cases gk with
   | zero => exact absurd HA.out (by simp [laws_eqIntS.l0])
   | succ k1 =>
    have H := HA.out
    clear HA
    simp only [laws_eqIntS.l0] at H
    by_cases c4 : x5_1 < (l0.length : Int)
    ·rw [if_pos c4] at H
     have c4b0 : decide (x5_1 < (l0.length : Int)) = true := decide_eq_true c4
     clear c4
     by_cases c5 : 0 ≤ x5_1
     ·rw [if_pos c5] at H
      have c5b0 : decide (0 ≤ x5_1) = true := decide_eq_true c5
      clear c5
      by_cases c6 : x5_1 < (l1.length : Int)
      ·rw [if_pos c6] at H
       have c6b0 : decide (x5_1 < (l1.length : Int)) = true := decide_eq_true c6
       clear c6
       by_cases c7 : (rd l0 x5_1) = (rd l1 x5_1)
       ·rw [if_pos c7] at H
        have c7b0 : ((rd l0 x5_1) == (rd l1 x5_1)) = true := beq_iff_eq.mpr c7
        have c7b1 : ((rd l0 x5_1) != (rd l1 x5_1)) = false := bne_eq_false_iff_eq.mpr c7
        clear c7
        have H' := Aside0.mk H
        clear H
        have p101 : 0 ≤ (x5_1 : Int) := of_decide_eq_true (by first | (with_reducible assumption) | assumption)
        have q101 : x5_1 < (l0.length : Int) := of_decide_eq_true (by first | (with_reducible assumption) | assumption)
        obtain ⟨ad101, e101, hx101_0⟩ := Kd.at_int HR0.out x5_1 p101 q101
        cases e101
        replace p101 := eq_true p101
        replace q101 := eq_true q101
        have p102 : 0 ≤ (x5_1 : Int) := of_decide_eq_true (by first | (with_reducible assumption) | assumption)
        have q102 : x5_1 < (l1.length : Int) := of_decide_eq_true (by first | (with_reducible assumption) | assumption)
        obtain ⟨ad102, e102, hx102_0⟩ := Kd.at_int HR1.out x5_1 p102 q102
        cases e102
        replace p102 := eq_true p102
        replace q102 := eq_true q102
        go_wp2
        repeat (go_quiet (fail); try go_wp2)
        go_roundg k1
        case measure => have := HK1.out; omega
        case rel => exact ⟨(wrap64 (x5_1 + 1)), (by first | rfl | (simp; done) | (simp [*]; done)), H', ⟨by have := HK1.out; omega⟩, by repeat (first | exact Drawn0.refl _ | apply Drawn0.step)⟩
       ·rw [if_neg c7] at H
        have c7b0 : ((rd l0 x5_1) == (rd l1 x5_1)) = false := beq_eq_false_iff_ne.mpr c7
        have c7b1 : ((rd l0 x5_1) != (rd l1 x5_1)) = true := bne_iff_ne.mpr c7
        obtain rfl := Option.some.inj H
        have p101 : 0 ≤ (x5_1 : Int) := of_decide_eq_true (by first | (with_reducible assumption) | assumption)
        have q101 : x5_1 < (l0.length : Int) := of_decide_eq_true (by first | (with_reducible assumption) | assumption)
        obtain ⟨ad101, e101, hx101_0⟩ := Kd.at_int HR0.out x5_1 p101 q101
        cases e101
        replace p101 := eq_true p101
        replace q101 := eq_true q101
        have p102 : 0 ≤ (x5_1 : Int) := of_decide_eq_true (by first | (with_reducible assumption) | assumption)
        have q102 : x5_1 < (l1.length : Int) := of_decide_eq_true (by first | (with_reducible assumption) | assumption)
        obtain ⟨ad102, e102, hx102_0⟩ := Kd.at_int HR1.out x5_1 p102 q102
        cases e102
        replace p102 := eq_true p102
        replace q102 := eq_true q102
        go_wp2
        repeat (go_quiet (fail); try go_wp2)
        go_ret
        exact ⟨by first | rfl | (simp; done) | (simp [*]; done), by repeat (first | exact Drawn0.refl _ | apply Drawn0.step)⟩
      ·rw [if_neg c6] at H
       exact absurd H (by simp)
     ·rw [if_neg c5] at H
      exact absurd H (by simp)
    ·rw [if_neg c4] at H
     have c4b0 : decide (x5_1 < (l0.length : Int)) = false := decide_eq_false c4
     clear c4
     obtain rfl := Option.some.inj H
     go_wp2
     repeat (go_quiet (fail); try go_wp2)
     go_ret
     exact ⟨by first | rfl | (simp; done) | (simp [*]; done), by repeat (first | exact Drawn0.refl _ | apply Drawn0.step)⟩
 ·rw [if_neg c3] at H
  have c3b0 : ((l0.length : Int) == (l1.length : Int)) = false := beq_eq_false_iff_ne.mpr c3
  have c3b1 : ((l0.length : Int) != (l1.length : Int)) = true := bne_iff_ne.mpr c3
  have c3b2 : (l0.length == l1.length) = false := by first | simpa using c3 | (simp at c3 ⊢; omega)
  obtain rfl := Option.some.inj H
  go_enter Try.func49, Try.ntmps49
  go_wp2
  repeat (go_quiet (fail); try go_wp2)
  go_ret
  exact ⟨by first | rfl | (simp; done) | (simp [*]; done), by repeat (first | exact Drawn0.refl _ | apply Drawn0.step)⟩

end Go.Proofs.Ytbnmkikifjidjaa.Q
end
section
/- Contracts of a function, printed for this claim by a program of ours over the kit's print. -/
namespace Go.Proofs.Ytbnmkikifjidjaa.Q
open Go.RowKit Go.Proofs.YtbnmkikifjidjaaW.PrintWords Go.Proofs.YtbnmkikifjidjaaW.PrintLast Go.Proofs.YtbnmkikifjidjaaW.PrintMore
attribute [local go_sem] max2_int min2_int max_two min_two max_three min_three max_four min_four   -- for this text's walks alone
set_option linter.unusedVariables false
set_option linter.unusedSimpArgs false

/-! ### laws_eqRow: function 14 -/
def laws_eqRow.f (k : Nat) (l0_0 : List Int) (l1_0 : List Int) : Option (Bool) := (laws_eqIntS.f k l0_0 l1_0).bind fun t103 => (if t103 = true then (some true) else (some false))
set_option maxHeartbeats 8000000 in
set_option maxRecDepth 100000 in
theorem laws_eqRow.calls (k : Nat) (A0_0 : Option Addr) (c0_0 : Nat) (l0_0 : List Int) (A1_0 : Option Addr) (c1_0 : Nat) (l1_0 : List Int) (r : Bool) (w : World) (hr0_0 : Kd.C (Kd.int .i64) w A0_0 l0_0.length l0_0) (hc0_0 : l0_0.length ≤ c0_0) (hr1_0 : Kd.C (Kd.int .i64) w A1_0 l1_0.length l1_0) (hc1_0 : l1_0.length ≤ c1_0) (h : laws_eqRow.f k l0_0 l1_0 = some r) :
  Calls Try.prog 14 #[.agg #[.slice A0_0 l0_0.length c0_0], .agg #[.slice A1_0 l1_0.length c1_0]] w fun e w' => e = .returned (.bool r) ∧ Below w.heap.size w w' := by
 have hu28 := Try.underlying28
 have HR0_0 := Aside0.mk hr0_0
 have HC0_0 := Aside0.mk hc0_0
 clear hr0_0 hc0_0
 have HR1_0 := Aside0.mk hr1_0
 have HC1_0 := Aside0.mk hc1_0
 clear hr1_0 hc1_0
 have HB := Aside0.mk (Below.refl w.heap.size w)
 have H : ((laws_eqIntS.f k l0_0 l1_0).bind fun t103 => (if t103 = true then (some true) else (some false))) = some r := h
 clear h
 replace H := Option.bind_eq_some_iff.mp H
 obtain ⟨t103, A30, H⟩ := H
 replace H : (if t103 = true then (some true) else (some false)) = some r := H
 have A3 := Aside0.mk A30
 clear A30
 by_cases c4 : t103 = true
 ·subst c4
  have H1 : (some true) = some r := by rw [if_pos rfl] at H; exact H
  clear H
  have H := H1
  clear H1
  obtain rfl := Option.some.inj H
  go_enter Try.func14, Try.ntmps14
  go_wp2_with (first | ((with_reducible refine gate_dst (N := 2) rfl ?_); refine box_event ?hg (N := 2) ?hd (cs := #[.slice A0_0 l0_0.length c0_0]) (t := 28) ?hr ?_; (case hd => rfl); (case hg => rfl); (case hr => first | (go_simp; done) | (go_simp; rfl)); intro gb101 hg w5 hbox hb; have n0_ := Aside0.mk (below_step (by repeat (first | (with_reducible first | exact HB.out | apply below_alloc | apply pw_below_drewN | apply below_drew1) | exact HB.out)) hb); have n1_ := Aside0.mk (hbox); have n2_ := Aside0.mk ((by rw [hg]; exact (below_size (by repeat (first | (with_reducible first | exact HB.out | apply below_alloc | apply pw_below_drewN | apply below_drew1) | exact HB.out))) : w.heap.size ≤ gb101)); have n3_ := Aside0.mk ((by rw [hg]; exact (below_size (by repeat (first | (with_reducible first | exact HB.out | apply below_alloc | apply pw_below_drewN | apply below_drew1) | exact HB.out))) : w.heap.size ≤ gb101)); clear HB; have HB := n0_; have BK101 := n1_; have GW101 := n2_; have GE101 := n3_; clear n0_ n1_ n2_ n3_; clear hb hbox hg) | ((with_reducible refine gate_dst (N := 3) rfl ?_); refine box_event ?hg (N := 3) ?hd (cs := #[.slice A1_0 l1_0.length c1_0]) (t := 28) ?hr ?_; (case hd => rfl); (case hg => rfl); (case hr => first | (go_simp; done) | (go_simp; rfl)); intro gb102 hg w6 hbox hb; have n0_ := Aside0.mk (blk_below (g := gb101) (o := .cells #[.slice A0_0 l0_0.length c0_0] 28 (0, 0)) (by (with_reducible repeat (first | refine blk_drewN ?_ _ | refine blk_drew ?_ | refine blk_alloc ?_ _)); exact BK101.out) hb); have n1_ := Aside0.mk (below_step (by repeat (first | (with_reducible first | exact HB.out | apply below_alloc | apply pw_below_drewN | apply below_drew1 | refine below_set ?_ GE101.out) | exact HB.out)) hb); have n2_ := Aside0.mk (hbox); have n3_ := Aside0.mk ((by rw [hg]; exact (below_size (by repeat (first | (with_reducible first | exact HB.out | apply below_alloc | apply pw_below_drewN | apply below_drew1 | refine below_set ?_ GE101.out) | exact HB.out))) : w.heap.size ≤ gb102)); have n4_ := Aside0.mk ((by rw [hg]; exact (below_size (by repeat (first | (with_reducible first | exact HB.out | apply below_alloc | apply pw_below_drewN | apply below_drew1 | refine below_set ?_ GE101.out) | exact HB.out))) : w.heap.size ≤ gb102)); have n5_ := Aside0.mk ((by rw [hg]; exact Nat.ne_of_lt (blk_lt (g := gb101) (o := .cells #[.slice A0_0 l0_0.length c0_0] 28 (0, 0)) (by (with_reducible repeat (first | refine blk_drewN ?_ _ | refine blk_drew ?_ | refine blk_alloc ?_ _)); exact BK101.out)) : gb101 ≠ gb102)); have n6_ := Aside0.mk ((by rw [hg]; exact Nat.ne_of_gt (blk_lt (g := gb101) (o := .cells #[.slice A0_0 l0_0.length c0_0] 28 (0, 0)) (by (with_reducible repeat (first | refine blk_drewN ?_ _ | refine blk_drew ?_ | refine blk_alloc ?_ _)); exact BK101.out)) : gb102 ≠ gb101)); clear BK101; clear HB; have BK101 := n0_; have HB := n1_; have BK102 := n2_; have GW102 := n3_; have GE102 := n4_; have NB101_102 := n5_; have NB102_101 := n6_; clear n0_ n1_ n2_ n3_ n4_ n5_ n6_; clear hb hbox hg; have hnb7 := NB101_102.out; have hnc7 := NB102_101.out; have hcz8_0 : w6.cell? ⟨gb101, 0, none⟩ = some (.slice A0_0 l0_0.length c0_0) := (blk_cell BK101.out 0).trans rfl; have hfz8_0 := blk_frozen BK101.out 0; have hcz9_0 : w6.cell? ⟨gb102, 0, none⟩ = some (.slice A1_0 l1_0.length c1_0) := (blk_cell BK102.out 0).trans rfl; have hfz9_0 := blk_frozen BK102.out 0) | ((with_reducible refine gate_callee (f := 49) rfl ?_); refine goesL_ (some 9) rfl rfl Try.func49 (by kernel_rfl) rfl #[.slice A0_0 l0_0.length c0_0, .slice A1_0 l1_0.length c1_0] rfl (by (try simp only [List.map_toArray, List.map_cons, List.map_nil]); first | done | rfl | (simp only [List.length_drop, List.length_take]; rfl)) ?_; (with_reducible refine (laws_eqIntS.calls k _ _ l0_0 _ _ l1_0 true _ ?side1 ?side2 ?side3 ?side4 A3.out).mono ?_); (case side1 => repeat (first | exact (Kd.C_below HR0_0.out HB.out) | (with_reducible refine Kd.C_alloc ?_ _) | (with_reducible refine Kd.C_drewN ?_ _) | (with_reducible refine Kd.C_drew ?_))); (case side2 => exact HC0_0.out); (case side3 => repeat (first | exact (Kd.C_below HR1_0.out HB.out) | (with_reducible refine Kd.C_alloc ?_ _) | (with_reducible refine Kd.C_drewN ?_ _) | (with_reducible refine Kd.C_drew ?_))); (case side4 => exact HC1_0.out); rintro e w' ⟨rfl, ⟨nd, rfl⟩⟩; refine ⟨_, rfl, ?_⟩))
  go_ret
  exact ⟨by first | rfl | (simp [errW_none, errW_some] <;> rfl) | (simp [*, errW_none, errW_some] <;> rfl), by repeat (first | (with_reducible first | exact HB.out | apply below_alloc | apply pw_below_drewN | apply below_drew1 | refine below_set ?_ GE101.out | refine below_set ?_ GE102.out) | exact HB.out)⟩
 ·replace c4 := Bool.eq_false_iff.mpr c4
  subst c4
  have H1 : (some false) = some r := by rw [if_neg (show ¬ (false = true) by decide)] at H; exact H
  clear H
  have H := H1
  clear H1
  obtain rfl := Option.some.inj H
  go_enter Try.func14, Try.ntmps14
  go_wp2_with (first | ((with_reducible refine gate_dst (N := 2) rfl ?_); refine box_event ?hg (N := 2) ?hd (cs := #[.slice A0_0 l0_0.length c0_0]) (t := 28) ?hr ?_; (case hd => rfl); (case hg => rfl); (case hr => first | (go_simp; done) | (go_simp; rfl)); intro gb101 hg w10 hbox hb; have n0_ := Aside0.mk (below_step (by repeat (first | (with_reducible first | exact HB.out | apply below_alloc | apply pw_below_drewN | apply below_drew1) | exact HB.out)) hb); have n1_ := Aside0.mk (hbox); have n2_ := Aside0.mk ((by rw [hg]; exact (below_size (by repeat (first | (with_reducible first | exact HB.out | apply below_alloc | apply pw_below_drewN | apply below_drew1) | exact HB.out))) : w.heap.size ≤ gb101)); have n3_ := Aside0.mk ((by rw [hg]; exact (below_size (by repeat (first | (with_reducible first | exact HB.out | apply below_alloc | apply pw_below_drewN | apply below_drew1) | exact HB.out))) : w.heap.size ≤ gb101)); clear HB; have HB := n0_; have BK101 := n1_; have GW101 := n2_; have GE101 := n3_; clear n0_ n1_ n2_ n3_; clear hb hbox hg) | ((with_reducible refine gate_dst (N := 3) rfl ?_); refine box_event ?hg (N := 3) ?hd (cs := #[.slice A1_0 l1_0.length c1_0]) (t := 28) ?hr ?_; (case hd => rfl); (case hg => rfl); (case hr => first | (go_simp; done) | (go_simp; rfl)); intro gb102 hg w11 hbox hb; have n0_ := Aside0.mk (blk_below (g := gb101) (o := .cells #[.slice A0_0 l0_0.length c0_0] 28 (0, 0)) (by (with_reducible repeat (first | refine blk_drewN ?_ _ | refine blk_drew ?_ | refine blk_alloc ?_ _)); exact BK101.out) hb); have n1_ := Aside0.mk (below_step (by repeat (first | (with_reducible first | exact HB.out | apply below_alloc | apply pw_below_drewN | apply below_drew1 | refine below_set ?_ GE101.out) | exact HB.out)) hb); have n2_ := Aside0.mk (hbox); have n3_ := Aside0.mk ((by rw [hg]; exact (below_size (by repeat (first | (with_reducible first | exact HB.out | apply below_alloc | apply pw_below_drewN | apply below_drew1 | refine below_set ?_ GE101.out) | exact HB.out))) : w.heap.size ≤ gb102)); have n4_ := Aside0.mk ((by rw [hg]; exact (below_size (by repeat (first | (with_reducible first | exact HB.out | apply below_alloc | apply pw_below_drewN | apply below_drew1 | refine below_set ?_ GE101.out) | exact HB.out))) : w.heap.size ≤ gb102)); have n5_ := Aside0.mk ((by rw [hg]; exact Nat.ne_of_lt (blk_lt (g := gb101) (o := .cells #[.slice A0_0 l0_0.length c0_0] 28 (0, 0)) (by (with_reducible repeat (first | refine blk_drewN ?_ _ | refine blk_drew ?_ | refine blk_alloc ?_ _)); exact BK101.out)) : gb101 ≠ gb102)); have n6_ := Aside0.mk ((by rw [hg]; exact Nat.ne_of_gt (blk_lt (g := gb101) (o := .cells #[.slice A0_0 l0_0.length c0_0] 28 (0, 0)) (by (with_reducible repeat (first | refine blk_drewN ?_ _ | refine blk_drew ?_ | refine blk_alloc ?_ _)); exact BK101.out)) : gb102 ≠ gb101)); clear BK101; clear HB; have BK101 := n0_; have HB := n1_; have BK102 := n2_; have GW102 := n3_; have GE102 := n4_; have NB101_102 := n5_; have NB102_101 := n6_; clear n0_ n1_ n2_ n3_ n4_ n5_ n6_; clear hb hbox hg; have hnb12 := NB101_102.out; have hnc12 := NB102_101.out; have hcz13_0 : w11.cell? ⟨gb101, 0, none⟩ = some (.slice A0_0 l0_0.length c0_0) := (blk_cell BK101.out 0).trans rfl; have hfz13_0 := blk_frozen BK101.out 0; have hcz14_0 : w11.cell? ⟨gb102, 0, none⟩ = some (.slice A1_0 l1_0.length c1_0) := (blk_cell BK102.out 0).trans rfl; have hfz14_0 := blk_frozen BK102.out 0) | ((with_reducible refine gate_callee (f := 49) rfl ?_); refine goesL_ (some 9) rfl rfl Try.func49 (by kernel_rfl) rfl #[.slice A0_0 l0_0.length c0_0, .slice A1_0 l1_0.length c1_0] rfl (by (try simp only [List.map_toArray, List.map_cons, List.map_nil]); first | done | rfl | (simp only [List.length_drop, List.length_take]; rfl)) ?_; (with_reducible refine (laws_eqIntS.calls k _ _ l0_0 _ _ l1_0 false _ ?side1 ?side2 ?side3 ?side4 A3.out).mono ?_); (case side1 => repeat (first | exact (Kd.C_below HR0_0.out HB.out) | (with_reducible refine Kd.C_alloc ?_ _) | (with_reducible refine Kd.C_drewN ?_ _) | (with_reducible refine Kd.C_drew ?_))); (case side2 => exact HC0_0.out); (case side3 => repeat (first | exact (Kd.C_below HR1_0.out HB.out) | (with_reducible refine Kd.C_alloc ?_ _) | (with_reducible refine Kd.C_drewN ?_ _) | (with_reducible refine Kd.C_drew ?_))); (case side4 => exact HC1_0.out); rintro e w' ⟨rfl, ⟨nd, rfl⟩⟩; refine ⟨_, rfl, ?_⟩))
  go_ret
  exact ⟨by first | rfl | (simp [errW_none, errW_some] <;> rfl) | (simp [*, errW_none, errW_some] <;> rfl), by repeat (first | (with_reducible first | exact HB.out | apply below_alloc | apply pw_below_drewN | apply below_drew1 | refine below_set ?_ GE101.out | refine below_set ?_ GE102.out) | exact HB.out)⟩

end Go.Proofs.Ytbnmkikifjidjaa.Q
end
section
/- Contracts of a function, printed for this claim by a program of ours over the kit's print. -/
namespace Go.Proofs.Ytbnmkikifjidjaa.Q
open Go.RowKit Go.Proofs.YtbnmkikifjidjaaW.PrintWords Go.Proofs.YtbnmkikifjidjaaW.PrintLast Go.Proofs.YtbnmkikifjidjaaW.PrintMore
attribute [local go_sem] max2_int min2_int max_two min_two max_three min_three max_four min_four   -- for this text's walks alone
set_option linter.unusedVariables false
set_option linter.unusedSimpArgs false

/-! ### laws_eqGroup: function 12 -/
def laws_eqGroup.f (k : Nat) (l0_0 : List Int) (a0_1 : Int) (a0_2 : Int) (l1_0 : List Int) (a1_1 : Int) (a1_2 : Int) : Option (Bool) := (laws_eqRow.f k l0_0 l1_0).bind fun t103 => (if t103 = true then (if a0_1 = a1_1 then (if a0_2 = a1_2 then (some true) else (some false)) else (some false)) else (some false))
set_option maxHeartbeats 8000000 in
set_option maxRecDepth 100000 in
theorem laws_eqGroup.calls (k : Nat) (A0_0 : Option Addr) (c0_0 : Nat) (l0_0 : List Int) (a0_1 : Int) (a0_2 : Int) (A1_0 : Option Addr) (c1_0 : Nat) (l1_0 : List Int) (a1_1 : Int) (a1_2 : Int) (r : Bool) (w : World) (hr0_0 : Kd.C (Kd.int .i64) w A0_0 l0_0.length l0_0) (hc0_0 : l0_0.length ≤ c0_0) (hr1_0 : Kd.C (Kd.int .i64) w A1_0 l1_0.length l1_0) (hc1_0 : l1_0.length ≤ c1_0) (h : laws_eqGroup.f k l0_0 a0_1 a0_2 l1_0 a1_1 a1_2 = some r) :
  Calls Try.prog 12 #[.agg #[.slice A0_0 l0_0.length c0_0, .int .i64 a0_1, .int .i64 a0_2], .agg #[.slice A1_0 l1_0.length c1_0, .int .i64 a1_1, .int .i64 a1_2]] w fun e w' => e = .returned (.bool r) ∧ Below w.heap.size w w' := by
 have hu30 := Try.underlying30
 have hu28 := Try.underlying28
 have HR0_0 := Aside0.mk hr0_0
 have HC0_0 := Aside0.mk hc0_0
 clear hr0_0 hc0_0
 have HR1_0 := Aside0.mk hr1_0
 have HC1_0 := Aside0.mk hc1_0
 clear hr1_0 hc1_0
 have HB := Aside0.mk (Below.refl w.heap.size w)
 have H : ((laws_eqRow.f k l0_0 l1_0).bind fun t103 => (if t103 = true then (if a0_1 = a1_1 then (if a0_2 = a1_2 then (some true) else (some false)) else (some false)) else (some false))) = some r := h
 clear h
 replace H := Option.bind_eq_some_iff.mp H
 obtain ⟨t103, A30, H⟩ := H
 replace H : (if t103 = true then (if a0_1 = a1_1 then (if a0_2 = a1_2 then (some true) else (some false)) else (some false)) else (some false)) = some r := H
 have A3 := Aside0.mk A30
 clear A30
 by_cases c4 : t103 = true
 ·subst c4
  have H1 : (if a0_1 = a1_1 then (if a0_2 = a1_2 then (some true) else (some false)) else (some false)) = some r := by rw [if_pos rfl] at H; exact H
  clear H
  have H := H1
  clear H1
  by_cases c5 : a0_1 = a1_1
  ·rw [if_pos c5] at H
   have c5b0 : (a0_1 == a1_1) = true := beq_iff_eq.mpr c5
   have c5b1 : (a0_1 != a1_1) = false := bne_eq_false_iff_eq.mpr c5
   clear c5
   by_cases c6 : a0_2 = a1_2
   ·rw [if_pos c6] at H
    have c6b0 : (a0_2 == a1_2) = true := beq_iff_eq.mpr c6
    have c6b1 : (a0_2 != a1_2) = false := bne_eq_false_iff_eq.mpr c6
    clear c6
    obtain rfl := Option.some.inj H
    go_enter Try.func12, Try.ntmps12
    go_wp2_with (first | ((with_reducible refine gate_dst (N := 2) rfl ?_); refine box_event ?hg (N := 2) ?hd (cs := #[.slice A0_0 l0_0.length c0_0, .int .i64 a0_1, .int .i64 a0_2]) (t := 30) ?hr ?_; (case hd => rfl); (case hg => rfl); (case hr => first | (go_simp; done) | (go_simp; rfl)); intro gb101 hg w7 hbox hb; have n0_ := Aside0.mk (below_step (by repeat (first | (with_reducible first | exact HB.out | apply below_alloc | apply pw_below_drewN | apply below_drew1) | exact HB.out)) hb); have n1_ := Aside0.mk (hbox); have n2_ := Aside0.mk ((by rw [hg]; exact (below_size (by repeat (first | (with_reducible first | exact HB.out | apply below_alloc | apply pw_below_drewN | apply below_drew1) | exact HB.out))) : w.heap.size ≤ gb101)); have n3_ := Aside0.mk ((by rw [hg]; exact (below_size (by repeat (first | (with_reducible first | exact HB.out | apply below_alloc | apply pw_below_drewN | apply below_drew1) | exact HB.out))) : w.heap.size ≤ gb101)); clear HB; have HB := n0_; have BK101 := n1_; have GW101 := n2_; have GE101 := n3_; clear n0_ n1_ n2_ n3_; clear hb hbox hg) | ((with_reducible refine gate_dst (N := 3) rfl ?_); refine box_event ?hg (N := 3) ?hd (cs := #[.slice A1_0 l1_0.length c1_0, .int .i64 a1_1, .int .i64 a1_2]) (t := 30) ?hr ?_; (case hd => rfl); (case hg => rfl); (case hr => first | (go_simp; done) | (go_simp; rfl)); intro gb102 hg w8 hbox hb; have n0_ := Aside0.mk (blk_below (g := gb101) (o := .cells #[.slice A0_0 l0_0.length c0_0, .int .i64 a0_1, .int .i64 a0_2] 30 (0, 0)) (by (with_reducible repeat (first | refine blk_drewN ?_ _ | refine blk_drew ?_ | refine blk_alloc ?_ _)); exact BK101.out) hb); have n1_ := Aside0.mk (below_step (by repeat (first | (with_reducible first | exact HB.out | apply below_alloc | apply pw_below_drewN | apply below_drew1 | refine below_set ?_ GE101.out) | exact HB.out)) hb); have n2_ := Aside0.mk (hbox); have n3_ := Aside0.mk ((by rw [hg]; exact (below_size (by repeat (first | (with_reducible first | exact HB.out | apply below_alloc | apply pw_below_drewN | apply below_drew1 | refine below_set ?_ GE101.out) | exact HB.out))) : w.heap.size ≤ gb102)); have n4_ := Aside0.mk ((by rw [hg]; exact (below_size (by repeat (first | (with_reducible first | exact HB.out | apply below_alloc | apply pw_below_drewN | apply below_drew1 | refine below_set ?_ GE101.out) | exact HB.out))) : w.heap.size ≤ gb102)); have n5_ := Aside0.mk ((by rw [hg]; exact Nat.ne_of_lt (blk_lt (g := gb101) (o := .cells #[.slice A0_0 l0_0.length c0_0, .int .i64 a0_1, .int .i64 a0_2] 30 (0, 0)) (by (with_reducible repeat (first | refine blk_drewN ?_ _ | refine blk_drew ?_ | refine blk_alloc ?_ _)); exact BK101.out)) : gb101 ≠ gb102)); have n6_ := Aside0.mk ((by rw [hg]; exact Nat.ne_of_gt (blk_lt (g := gb101) (o := .cells #[.slice A0_0 l0_0.length c0_0, .int .i64 a0_1, .int .i64 a0_2] 30 (0, 0)) (by (with_reducible repeat (first | refine blk_drewN ?_ _ | refine blk_drew ?_ | refine blk_alloc ?_ _)); exact BK101.out)) : gb102 ≠ gb101)); clear BK101; clear HB; have BK101 := n0_; have HB := n1_; have BK102 := n2_; have GW102 := n3_; have GE102 := n4_; have NB101_102 := n5_; have NB102_101 := n6_; clear n0_ n1_ n2_ n3_ n4_ n5_ n6_; clear hb hbox hg; have hnb9 := NB101_102.out; have hnc9 := NB102_101.out; have hcz10_0 : w8.cell? ⟨gb101, 0, none⟩ = some (.slice A0_0 l0_0.length c0_0) := (blk_cell BK101.out 0).trans rfl; have hcz10_1 : w8.cell? ⟨gb101, 1, none⟩ = some (.int .i64 a0_1) := (blk_cell BK101.out 1).trans rfl; have hcz10_2 : w8.cell? ⟨gb101, 2, none⟩ = some (.int .i64 a0_2) := (blk_cell BK101.out 2).trans rfl; have hfz10_0 := blk_frozen BK101.out 0; have hfz10_1 := blk_frozen BK101.out 1; have hfz10_2 := blk_frozen BK101.out 2; have hcz11_0 : w8.cell? ⟨gb102, 0, none⟩ = some (.slice A1_0 l1_0.length c1_0) := (blk_cell BK102.out 0).trans rfl; have hcz11_1 : w8.cell? ⟨gb102, 1, none⟩ = some (.int .i64 a1_1) := (blk_cell BK102.out 1).trans rfl; have hcz11_2 : w8.cell? ⟨gb102, 2, none⟩ = some (.int .i64 a1_2) := (blk_cell BK102.out 2).trans rfl; have hfz11_0 := blk_frozen BK102.out 0; have hfz11_1 := blk_frozen BK102.out 1; have hfz11_2 := blk_frozen BK102.out 2) | ((with_reducible refine gate_callee (f := 14) rfl ?_); refine goesL_ (some 9) rfl rfl Try.func14 (by kernel_rfl) rfl #[.agg #[.slice A0_0 l0_0.length c0_0], .agg #[.slice A1_0 l1_0.length c1_0]] rfl (by (try simp only [List.map_toArray, List.map_cons, List.map_nil]); first | done | rfl | (simp only [List.length_drop, List.length_take]; rfl)) ?_; (with_reducible refine (laws_eqRow.calls k _ _ l0_0 _ _ l1_0 true _ ?side1 ?side2 ?side3 ?side4 A3.out).mono ?_); (case side1 => repeat (first | exact (Kd.C_below HR0_0.out HB.out) | (with_reducible refine Kd.C_alloc ?_ _) | (with_reducible refine Kd.C_drewN ?_ _) | (with_reducible refine Kd.C_drew ?_))); (case side2 => exact HC0_0.out); (case side3 => repeat (first | exact (Kd.C_below HR1_0.out HB.out) | (with_reducible refine Kd.C_alloc ?_ _) | (with_reducible refine Kd.C_drewN ?_ _) | (with_reducible refine Kd.C_drew ?_))); (case side4 => exact HC1_0.out); rintro e w12 ⟨rfl, hb⟩; refine ⟨_, rfl, ?_⟩; have n0_ := Aside0.mk (blk_below (g := gb101) (o := .cells #[.slice A0_0 l0_0.length c0_0, .int .i64 a0_1, .int .i64 a0_2] 30 (0, 0)) (by (with_reducible repeat (first | refine blk_drewN ?_ _ | refine blk_drew ?_ | refine blk_alloc ?_ _)); exact BK101.out) hb); have n1_ := Aside0.mk (blk_below (g := gb102) (o := .cells #[.slice A1_0 l1_0.length c1_0, .int .i64 a1_1, .int .i64 a1_2] 30 (0, 0)) (by (with_reducible repeat (first | refine blk_drewN ?_ _ | refine blk_drew ?_ | refine blk_alloc ?_ _)); exact BK102.out) hb); have n2_ := Aside0.mk (below_step (by repeat (first | (with_reducible first | exact HB.out | apply below_alloc | apply pw_below_drewN | apply below_drew1 | refine below_set ?_ GE101.out | refine below_set ?_ GE102.out) | exact HB.out)) hb); clear BK101; clear BK102; clear HB; have BK101 := n0_; have BK102 := n1_; have HB := n2_; clear n0_ n1_ n2_; (try clear hb); (try clear hb2); (try clear hk); (try clear hi); have hcz13_0 : w12.cell? ⟨gb101, 0, none⟩ = some (.slice A0_0 l0_0.length c0_0) := (blk_cell BK101.out 0).trans rfl; have hcz13_1 : w12.cell? ⟨gb101, 1, none⟩ = some (.int .i64 a0_1) := (blk_cell BK101.out 1).trans rfl; have hcz13_2 : w12.cell? ⟨gb101, 2, none⟩ = some (.int .i64 a0_2) := (blk_cell BK101.out 2).trans rfl; have hfz13_0 := blk_frozen BK101.out 0; have hfz13_1 := blk_frozen BK101.out 1; have hfz13_2 := blk_frozen BK101.out 2; have hcz14_0 : w12.cell? ⟨gb102, 0, none⟩ = some (.slice A1_0 l1_0.length c1_0) := (blk_cell BK102.out 0).trans rfl; have hcz14_1 : w12.cell? ⟨gb102, 1, none⟩ = some (.int .i64 a1_1) := (blk_cell BK102.out 1).trans rfl; have hcz14_2 : w12.cell? ⟨gb102, 2, none⟩ = some (.int .i64 a1_2) := (blk_cell BK102.out 2).trans rfl; have hfz14_0 := blk_frozen BK102.out 0; have hfz14_1 := blk_frozen BK102.out 1; have hfz14_2 := blk_frozen BK102.out 2))
    go_ret
    exact ⟨by first | rfl | (simp [errW_none, errW_some] <;> rfl) | (simp [*, errW_none, errW_some] <;> rfl), by repeat (first | (with_reducible first | exact HB.out | apply below_alloc | apply pw_below_drewN | apply below_drew1 | refine below_set ?_ GE101.out | refine below_set ?_ GE102.out) | exact HB.out)⟩
   ·rw [if_neg c6] at H
    have c6b0 : (a0_2 == a1_2) = false := beq_eq_false_iff_ne.mpr c6
    have c6b1 : (a0_2 != a1_2) = true := bne_iff_ne.mpr c6
    obtain rfl := Option.some.inj H
    go_enter Try.func12, Try.ntmps12
    go_wp2_with (first | ((with_reducible refine gate_dst (N := 2) rfl ?_); refine box_event ?hg (N := 2) ?hd (cs := #[.slice A0_0 l0_0.length c0_0, .int .i64 a0_1, .int .i64 a0_2]) (t := 30) ?hr ?_; (case hd => rfl); (case hg => rfl); (case hr => first | (go_simp; done) | (go_simp; rfl)); intro gb101 hg w15 hbox hb; have n0_ := Aside0.mk (below_step (by repeat (first | (with_reducible first | exact HB.out | apply below_alloc | apply pw_below_drewN | apply below_drew1) | exact HB.out)) hb); have n1_ := Aside0.mk (hbox); have n2_ := Aside0.mk ((by rw [hg]; exact (below_size (by repeat (first | (with_reducible first | exact HB.out | apply below_alloc | apply pw_below_drewN | apply below_drew1) | exact HB.out))) : w.heap.size ≤ gb101)); have n3_ := Aside0.mk ((by rw [hg]; exact (below_size (by repeat (first | (with_reducible first | exact HB.out | apply below_alloc | apply pw_below_drewN | apply below_drew1) | exact HB.out))) : w.heap.size ≤ gb101)); clear HB; have HB := n0_; have BK101 := n1_; have GW101 := n2_; have GE101 := n3_; clear n0_ n1_ n2_ n3_; clear hb hbox hg) | ((with_reducible refine gate_dst (N := 3) rfl ?_); refine box_event ?hg (N := 3) ?hd (cs := #[.slice A1_0 l1_0.length c1_0, .int .i64 a1_1, .int .i64 a1_2]) (t := 30) ?hr ?_; (case hd => rfl); (case hg => rfl); (case hr => first | (go_simp; done) | (go_simp; rfl)); intro gb102 hg w16 hbox hb; have n0_ := Aside0.mk (blk_below (g := gb101) (o := .cells #[.slice A0_0 l0_0.length c0_0, .int .i64 a0_1, .int .i64 a0_2] 30 (0, 0)) (by (with_reducible repeat (first | refine blk_drewN ?_ _ | refine blk_drew ?_ | refine blk_alloc ?_ _)); exact BK101.out) hb); have n1_ := Aside0.mk (below_step (by repeat (first | (with_reducible first | exact HB.out | apply below_alloc | apply pw_below_drewN | apply below_drew1 | refine below_set ?_ GE101.out) | exact HB.out)) hb); have n2_ := Aside0.mk (hbox); have n3_ := Aside0.mk ((by rw [hg]; exact (below_size (by repeat (first | (with_reducible first | exact HB.out | apply below_alloc | apply pw_below_drewN | apply below_drew1 | refine below_set ?_ GE101.out) | exact HB.out))) : w.heap.size ≤ gb102)); have n4_ := Aside0.mk ((by rw [hg]; exact (below_size (by repeat (first | (with_reducible first | exact HB.out | apply below_alloc | apply pw_below_drewN | apply below_drew1 | refine below_set ?_ GE101.out) | exact HB.out))) : w.heap.size ≤ gb102)); have n5_ := Aside0.mk ((by rw [hg]; exact Nat.ne_of_lt (blk_lt (g := gb101) (o := .cells #[.slice A0_0 l0_0.length c0_0, .int .i64 a0_1, .int .i64 a0_2] 30 (0, 0)) (by (with_reducible repeat (first | refine blk_drewN ?_ _ | refine blk_drew ?_ | refine blk_alloc ?_ _)); exact BK101.out)) : gb101 ≠ gb102)); have n6_ := Aside0.mk ((by rw [hg]; exact Nat.ne_of_gt (blk_lt (g := gb101) (o := .cells #[.slice A0_0 l0_0.length c0_0, .int .i64 a0_1, .int .i64 a0_2] 30 (0, 0)) (by (with_reducible repeat (first | refine blk_drewN ?_ _ | refine blk_drew ?_ | refine blk_alloc ?_ _)); exact BK101.out)) : gb102 ≠ gb101)); clear BK101; clear HB; have BK101 := n0_; have HB := n1_; have BK102 := n2_; have GW102 := n3_; have GE102 := n4_; have NB101_102 := n5_; have NB102_101 := n6_; clear n0_ n1_ n2_ n3_ n4_ n5_ n6_; clear hb hbox hg; have hnb17 := NB101_102.out; have hnc17 := NB102_101.out; have hcz18_0 : w16.cell? ⟨gb101, 0, none⟩ = some (.slice A0_0 l0_0.length c0_0) := (blk_cell BK101.out 0).trans rfl; have hcz18_1 : w16.cell? ⟨gb101, 1, none⟩ = some (.int .i64 a0_1) := (blk_cell BK101.out 1).trans rfl; have hcz18_2 : w16.cell? ⟨gb101, 2, none⟩ = some (.int .i64 a0_2) := (blk_cell BK101.out 2).trans rfl; have hfz18_0 := blk_frozen BK101.out 0; have hfz18_1 := blk_frozen BK101.out 1; have hfz18_2 := blk_frozen BK101.out 2; have hcz19_0 : w16.cell? ⟨gb102, 0, none⟩ = some (.slice A1_0 l1_0.length c1_0) := (blk_cell BK102.out 0).trans rfl; have hcz19_1 : w16.cell? ⟨gb102, 1, none⟩ = some (.int .i64 a1_1) := (blk_cell BK102.out 1).trans rfl; have hcz19_2 : w16.cell? ⟨gb102, 2, none⟩ = some (.int .i64 a1_2) := (blk_cell BK102.out 2).trans rfl; have hfz19_0 := blk_frozen BK102.out 0; have hfz19_1 := blk_frozen BK102.out 1; have hfz19_2 := blk_frozen BK102.out 2) | ((with_reducible refine gate_callee (f := 14) rfl ?_); refine goesL_ (some 9) rfl rfl Try.func14 (by kernel_rfl) rfl #[.agg #[.slice A0_0 l0_0.length c0_0], .agg #[.slice A1_0 l1_0.length c1_0]] rfl (by (try simp only [List.map_toArray, List.map_cons, List.map_nil]); first | done | rfl | (simp only [List.length_drop, List.length_take]; rfl)) ?_; (with_reducible refine (laws_eqRow.calls k _ _ l0_0 _ _ l1_0 true _ ?side1 ?side2 ?side3 ?side4 A3.out).mono ?_); (case side1 => repeat (first | exact (Kd.C_below HR0_0.out HB.out) | (with_reducible refine Kd.C_alloc ?_ _) | (with_reducible refine Kd.C_drewN ?_ _) | (with_reducible refine Kd.C_drew ?_))); (case side2 => exact HC0_0.out); (case side3 => repeat (first | exact (Kd.C_below HR1_0.out HB.out) | (with_reducible refine Kd.C_alloc ?_ _) | (with_reducible refine Kd.C_drewN ?_ _) | (with_reducible refine Kd.C_drew ?_))); (case side4 => exact HC1_0.out); rintro e w20 ⟨rfl, hb⟩; refine ⟨_, rfl, ?_⟩; have n0_ := Aside0.mk (blk_below (g := gb101) (o := .cells #[.slice A0_0 l0_0.length c0_0, .int .i64 a0_1, .int .i64 a0_2] 30 (0, 0)) (by (with_reducible repeat (first | refine blk_drewN ?_ _ | refine blk_drew ?_ | refine blk_alloc ?_ _)); exact BK101.out) hb); have n1_ := Aside0.mk (blk_below (g := gb102) (o := .cells #[.slice A1_0 l1_0.length c1_0, .int .i64 a1_1, .int .i64 a1_2] 30 (0, 0)) (by (with_reducible repeat (first | refine blk_drewN ?_ _ | refine blk_drew ?_ | refine blk_alloc ?_ _)); exact BK102.out) hb); have n2_ := Aside0.mk (below_step (by repeat (first | (with_reducible first | exact HB.out | apply below_alloc | apply pw_below_drewN | apply below_drew1 | refine below_set ?_ GE101.out | refine below_set ?_ GE102.out) | exact HB.out)) hb); clear BK101; clear BK102; clear HB; have BK101 := n0_; have BK102 := n1_; have HB := n2_; clear n0_ n1_ n2_; (try clear hb); (try clear hb2); (try clear hk); (try clear hi); have hcz21_0 : w20.cell? ⟨gb101, 0, none⟩ = some (.slice A0_0 l0_0.length c0_0) := (blk_cell BK101.out 0).trans rfl; have hcz21_1 : w20.cell? ⟨gb101, 1, none⟩ = some (.int .i64 a0_1) := (blk_cell BK101.out 1).trans rfl; have hcz21_2 : w20.cell? ⟨gb101, 2, none⟩ = some (.int .i64 a0_2) := (blk_cell BK101.out 2).trans rfl; have hfz21_0 := blk_frozen BK101.out 0; have hfz21_1 := blk_frozen BK101.out 1; have hfz21_2 := blk_frozen BK101.out 2; have hcz22_0 : w20.cell? ⟨gb102, 0, none⟩ = some (.slice A1_0 l1_0.length c1_0) := (blk_cell BK102.out 0).trans rfl; have hcz22_1 : w20.cell? ⟨gb102, 1, none⟩ = some (.int .i64 a1_1) := (blk_cell BK102.out 1).trans rfl; have hcz22_2 : w20.cell? ⟨gb102, 2, none⟩ = some (.int .i64 a1_2) := (blk_cell BK102.out 2).trans rfl; have hfz22_0 := blk_frozen BK102.out 0; have hfz22_1 := blk_frozen BK102.out 1; have hfz22_2 := blk_frozen BK102.out 2))
    go_ret
    exact ⟨by first | rfl | (simp [errW_none, errW_some] <;> rfl) | (simp [*, errW_none, errW_some] <;> rfl), by repeat (first | (with_reducible first | exact HB.out | apply below_alloc | apply pw_below_drewN | apply below_drew1 | refine below_set ?_ GE101.out | refine below_set ?_ GE102.out) | exact HB.out)⟩
  ·rw [if_neg c5] at H
   have c5b0 : (a0_1 == a1_1) = false := beq_eq_false_iff_ne.mpr c5
   have c5b1 : (a0_1 != a1_1) = true := bne_iff_ne.mpr c5
   obtain rfl := Option.some.inj H
   go_enter Try.func12, Try.ntmps12
   go_wp2_with (first | ((with_reducible refine gate_dst (N := 2) rfl ?_); refine box_event ?hg (N := 2) ?hd (cs := #[.slice A0_0 l0_0.length c0_0, .int .i64 a0_1, .int .i64 a0_2]) (t := 30) ?hr ?_; (case hd => rfl); (case hg => rfl); (case hr => first | (go_simp; done) | (go_simp; rfl)); intro gb101 hg w23 hbox hb; have n0_ := Aside0.mk (below_step (by repeat (first | (with_reducible first | exact HB.out | apply below_alloc | apply pw_below_drewN | apply below_drew1) | exact HB.out)) hb); have n1_ := Aside0.mk (hbox); have n2_ := Aside0.mk ((by rw [hg]; exact (below_size (by repeat (first | (with_reducible first | exact HB.out | apply below_alloc | apply pw_below_drewN | apply below_drew1) | exact HB.out))) : w.heap.size ≤ gb101)); have n3_ := Aside0.mk ((by rw [hg]; exact (below_size (by repeat (first | (with_reducible first | exact HB.out | apply below_alloc | apply pw_below_drewN | apply below_drew1) | exact HB.out))) : w.heap.size ≤ gb101)); clear HB; have HB := n0_; have BK101 := n1_; have GW101 := n2_; have GE101 := n3_; clear n0_ n1_ n2_ n3_; clear hb hbox hg) | ((with_reducible refine gate_dst (N := 3) rfl ?_); refine box_event ?hg (N := 3) ?hd (cs := #[.slice A1_0 l1_0.length c1_0, .int .i64 a1_1, .int .i64 a1_2]) (t := 30) ?hr ?_; (case hd => rfl); (case hg => rfl); (case hr => first | (go_simp; done) | (go_simp; rfl)); intro gb102 hg w24 hbox hb; have n0_ := Aside0.mk (blk_below (g := gb101) (o := .cells #[.slice A0_0 l0_0.length c0_0, .int .i64 a0_1, .int .i64 a0_2] 30 (0, 0)) (by (with_reducible repeat (first | refine blk_drewN ?_ _ | refine blk_drew ?_ | refine blk_alloc ?_ _)); exact BK101.out) hb); have n1_ := Aside0.mk (below_step (by repeat (first | (with_reducible first | exact HB.out | apply below_alloc | apply pw_below_drewN | apply below_drew1 | refine below_set ?_ GE101.out) | exact HB.out)) hb); have n2_ := Aside0.mk (hbox); have n3_ := Aside0.mk ((by rw [hg]; exact (below_size (by repeat (first | (with_reducible first | exact HB.out | apply below_alloc | apply pw_below_drewN | apply below_drew1 | refine below_set ?_ GE101.out) | exact HB.out))) : w.heap.size ≤ gb102)); have n4_ := Aside0.mk ((by rw [hg]; exact (below_size (by repeat (first | (with_reducible first | exact HB.out | apply below_alloc | apply pw_below_drewN | apply below_drew1 | refine below_set ?_ GE101.out) | exact HB.out))) : w.heap.size ≤ gb102)); have n5_ := Aside0.mk ((by rw [hg]; exact Nat.ne_of_lt (blk_lt (g := gb101) (o := .cells #[.slice A0_0 l0_0.length c0_0, .int .i64 a0_1, .int .i64 a0_2] 30 (0, 0)) (by (with_reducible repeat (first | refine blk_drewN ?_ _ | refine blk_drew ?_ | refine blk_alloc ?_ _)); exact BK101.out)) : gb101 ≠ gb102)); have n6_ := Aside0.mk ((by rw [hg]; exact Nat.ne_of_gt (blk_lt (g := gb101) (o := .cells #[.slice A0_0 l0_0.length c0_0, .int .i64 a0_1, .int .i64 a0_2] 30 (0, 0)) (by (with_reducible repeat (first | refine blk_drewN ?_ _ | refine blk_drew ?_ | refine blk_alloc ?_ _)); exact BK101.out)) : gb102 ≠ gb101)); clear BK101; clear HB; have BK101 := n0_; have HB := n1_; have BK102 := n2_; have GW102 := n3_; have GE102 := n4_; have NB101_102 := n5_; have NB102_101 := n6_; clear n0_ n1_ n2_ n3_ n4_ n5_ n6_; clear hb hbox hg; have hnb25 := NB101_102.out; have hnc25 := NB102_101.out; have hcz26_0 : w24.cell? ⟨gb101, 0, none⟩ = some (.slice A0_0 l0_0.length c0_0) := (blk_cell BK101.out 0).trans rfl; have hcz26_1 : w24.cell? ⟨gb101, 1, none⟩ = some (.int .i64 a0_1) := (blk_cell BK101.out 1).trans rfl; have hcz26_2 : w24.cell? ⟨gb101, 2, none⟩ = some (.int .i64 a0_2) := (blk_cell BK101.out 2).trans rfl; have hfz26_0 := blk_frozen BK101.out 0; have hfz26_1 := blk_frozen BK101.out 1; have hfz26_2 := blk_frozen BK101.out 2; have hcz27_0 : w24.cell? ⟨gb102, 0, none⟩ = some (.slice A1_0 l1_0.length c1_0) := (blk_cell BK102.out 0).trans rfl; have hcz27_1 : w24.cell? ⟨gb102, 1, none⟩ = some (.int .i64 a1_1) := (blk_cell BK102.out 1).trans rfl; have hcz27_2 : w24.cell? ⟨gb102, 2, none⟩ = some (.int .i64 a1_2) := (blk_cell BK102.out 2).trans rfl; have hfz27_0 := blk_frozen BK102.out 0; have hfz27_1 := blk_frozen BK102.out 1; have hfz27_2 := blk_frozen BK102.out 2) | ((with_reducible refine gate_callee (f := 14) rfl ?_); refine goesL_ (some 9) rfl rfl Try.func14 (by kernel_rfl) rfl #[.agg #[.slice A0_0 l0_0.length c0_0], .agg #[.slice A1_0 l1_0.length c1_0]] rfl (by (try simp only [List.map_toArray, List.map_cons, List.map_nil]); first | done | rfl | (simp only [List.length_drop, List.length_take]; rfl)) ?_; (with_reducible refine (laws_eqRow.calls k _ _ l0_0 _ _ l1_0 true _ ?side1 ?side2 ?side3 ?side4 A3.out).mono ?_); (case side1 => repeat (first | exact (Kd.C_below HR0_0.out HB.out) | (with_reducible refine Kd.C_alloc ?_ _) | (with_reducible refine Kd.C_drewN ?_ _) | (with_reducible refine Kd.C_drew ?_))); (case side2 => exact HC0_0.out); (case side3 => repeat (first | exact (Kd.C_below HR1_0.out HB.out) | (with_reducible refine Kd.C_alloc ?_ _) | (with_reducible refine Kd.C_drewN ?_ _) | (with_reducible refine Kd.C_drew ?_))); (case side4 => exact HC1_0.out); rintro e w28 ⟨rfl, hb⟩; refine ⟨_, rfl, ?_⟩; have n0_ := Aside0.mk (blk_below (g := gb101) (o := .cells #[.slice A0_0 l0_0.length c0_0, .int .i64 a0_1, .int .i64 a0_2] 30 (0, 0)) (by (with_reducible repeat (first | refine blk_drewN ?_ _ | refine blk_drew ?_ | refine blk_alloc ?_ _)); exact BK101.out) hb); have n1_ := Aside0.mk (blk_below (g := gb102) (o := .cells #[.slice A1_0 l1_0.length c1_0, .int .i64 a1_1, .int .i64 a1_2] 30 (0, 0)) (by (with_reducible repeat (first | refine blk_drewN ?_ _ | refine blk_drew ?_ | refine blk_alloc ?_ _)); exact BK102.out) hb); have n2_ := Aside0.mk (below_step (by repeat (first | (with_reducible first | exact HB.out | apply below_alloc | apply pw_below_drewN | apply below_drew1 | refine below_set ?_ GE101.out | refine below_set ?_ GE102.out) | exact HB.out)) hb); clear BK101; clear BK102; clear HB; have BK101 := n0_; have BK102 := n1_; have HB := n2_; clear n0_ n1_ n2_; (try clear hb); (try clear hb2); (try clear hk); (try clear hi); have hcz29_0 : w28.cell? ⟨gb101, 0, none⟩ = some (.slice A0_0 l0_0.length c0_0) := (blk_cell BK101.out 0).trans rfl; have hcz29_1 : w28.cell? ⟨gb101, 1, none⟩ = some (.int .i64 a0_1) := (blk_cell BK101.out 1).trans rfl; have hcz29_2 : w28.cell? ⟨gb101, 2, none⟩ = some (.int .i64 a0_2) := (blk_cell BK101.out 2).trans rfl; have hfz29_0 := blk_frozen BK101.out 0; have hfz29_1 := blk_frozen BK101.out 1; have hfz29_2 := blk_frozen BK101.out 2; have hcz30_0 : w28.cell? ⟨gb102, 0, none⟩ = some (.slice A1_0 l1_0.length c1_0) := (blk_cell BK102.out 0).trans rfl; have hcz30_1 : w28.cell? ⟨gb102, 1, none⟩ = some (.int .i64 a1_1) := (blk_cell BK102.out 1).trans rfl; have hcz30_2 : w28.cell? ⟨gb102, 2, none⟩ = some (.int .i64 a1_2) := (blk_cell BK102.out 2).trans rfl; have hfz30_0 := blk_frozen BK102.out 0; have hfz30_1 := blk_frozen BK102.out 1; have hfz30_2 := blk_frozen BK102.out 2))
   go_ret
   exact ⟨by first | rfl | (simp [errW_none, errW_some] <;> rfl) | (simp [*, errW_none, errW_some] <;> rfl), by repeat (first | (with_reducible first | exact HB.out | apply below_alloc | apply pw_below_drewN | apply below_drew1 | refine below_set ?_ GE101.out | refine below_set ?_ GE102.out) | exact HB.out)⟩
 ·replace c4 := Bool.eq_false_iff.mpr c4
  subst c4
  have H1 : (some false) = some r := by rw [if_neg (show ¬ (false = true) by decide)] at H; exact H
  clear H
  have H := H1
  clear H1
  obtain rfl := Option.some.inj H
  go_enter Try.func12, Try.ntmps12
  go_wp2_with (first | ((with_reducible refine gate_dst (N := 2) rfl ?_); refine box_event ?hg (N := 2) ?hd (cs := #[.slice A0_0 l0_0.length c0_0, .int .i64 a0_1, .int .i64 a0_2]) (t := 30) ?hr ?_; (case hd => rfl); (case hg => rfl); (case hr => first | (go_simp; done) | (go_simp; rfl)); intro gb101 hg w31 hbox hb; have n0_ := Aside0.mk (below_step (by repeat (first | (with_reducible first | exact HB.out | apply below_alloc | apply pw_below_drewN | apply below_drew1) | exact HB.out)) hb); have n1_ := Aside0.mk (hbox); have n2_ := Aside0.mk ((by rw [hg]; exact (below_size (by repeat (first | (with_reducible first | exact HB.out | apply below_alloc | apply pw_below_drewN | apply below_drew1) | exact HB.out))) : w.heap.size ≤ gb101)); have n3_ := Aside0.mk ((by rw [hg]; exact (below_size (by repeat (first | (with_reducible first | exact HB.out | apply below_alloc | apply pw_below_drewN | apply below_drew1) | exact HB.out))) : w.heap.size ≤ gb101)); clear HB; have HB := n0_; have BK101 := n1_; have GW101 := n2_; have GE101 := n3_; clear n0_ n1_ n2_ n3_; clear hb hbox hg) | ((with_reducible refine gate_dst (N := 3) rfl ?_); refine box_event ?hg (N := 3) ?hd (cs := #[.slice A1_0 l1_0.length c1_0, .int .i64 a1_1, .int .i64 a1_2]) (t := 30) ?hr ?_; (case hd => rfl); (case hg => rfl); (case hr => first | (go_simp; done) | (go_simp; rfl)); intro gb102 hg w32 hbox hb; have n0_ := Aside0.mk (blk_below (g := gb101) (o := .cells #[.slice A0_0 l0_0.length c0_0, .int .i64 a0_1, .int .i64 a0_2] 30 (0, 0)) (by (with_reducible repeat (first | refine blk_drewN ?_ _ | refine blk_drew ?_ | refine blk_alloc ?_ _)); exact BK101.out) hb); have n1_ := Aside0.mk (below_step (by repeat (first | (with_reducible first | exact HB.out | apply below_alloc | apply pw_below_drewN | apply below_drew1 | refine below_set ?_ GE101.out) | exact HB.out)) hb); have n2_ := Aside0.mk (hbox); have n3_ := Aside0.mk ((by rw [hg]; exact (below_size (by repeat (first | (with_reducible first | exact HB.out | apply below_alloc | apply pw_below_drewN | apply below_drew1 | refine below_set ?_ GE101.out) | exact HB.out))) : w.heap.size ≤ gb102)); have n4_ := Aside0.mk ((by rw [hg]; exact (below_size (by repeat (first | (with_reducible first | exact HB.out | apply below_alloc | apply pw_below_drewN | apply below_drew1 | refine below_set ?_ GE101.out) | exact HB.out))) : w.heap.size ≤ gb102)); have n5_ := Aside0.mk ((by rw [hg]; exact Nat.ne_of_lt (blk_lt (g := gb101) (o := .cells #[.slice A0_0 l0_0.length c0_0, .int .i64 a0_1, .int .i64 a0_2] 30 (0, 0)) (by (with_reducible repeat (first | refine blk_drewN ?_ _ | refine blk_drew ?_ | refine blk_alloc ?_ _)); exact BK101.out)) : gb101 ≠ gb102)); have n6_ := Aside0.mk ((by rw [hg]; exact Nat.ne_of_gt (blk_lt (g := gb101) (o := .cells #[.slice A0_0 l0_0.length c0_0, .int .i64 a0_1, .int .i64 a0_2] 30 (0, 0)) (by (with_reducible repeat (first | refine blk_drewN ?_ _ | refine blk_drew ?_ | refine blk_alloc ?_ _)); exact BK101.out)) : gb102 ≠ gb101)); clear BK101; clear HB; have BK101 := n0_; have HB := n1_; have BK102 := n2_; have GW102 := n3_; have GE102 := n4_; have NB101_102 := n5_; have NB102_101 := n6_; clear n0_ n1_ n2_ n3_ n4_ n5_ n6_; clear hb hbox hg; have hnb33 := NB101_102.out; have hnc33 := NB102_101.out; have hcz34_0 : w32.cell? ⟨gb101, 0, none⟩ = some (.slice A0_0 l0_0.length c0_0) := (blk_cell BK101.out 0).trans rfl; have hcz34_1 : w32.cell? ⟨gb101, 1, none⟩ = some (.int .i64 a0_1) := (blk_cell BK101.out 1).trans rfl; have hcz34_2 : w32.cell? ⟨gb101, 2, none⟩ = some (.int .i64 a0_2) := (blk_cell BK101.out 2).trans rfl; have hfz34_0 := blk_frozen BK101.out 0; have hfz34_1 := blk_frozen BK101.out 1; have hfz34_2 := blk_frozen BK101.out 2; have hcz35_0 : w32.cell? ⟨gb102, 0, none⟩ = some (.slice A1_0 l1_0.length c1_0) := (blk_cell BK102.out 0).trans rfl; have hcz35_1 : w32.cell? ⟨gb102, 1, none⟩ = some (.int .i64 a1_1) := (blk_cell BK102.out 1).trans rfl; have hcz35_2 : w32.cell? ⟨gb102, 2, none⟩ = some (.int .i64 a1_2) := (blk_cell BK102.out 2).trans rfl; have hfz35_0 := blk_frozen BK102.out 0; have hfz35_1 := blk_frozen BK102.out 1; have hfz35_2 := blk_frozen BK102.out 2) | ((with_reducible refine gate_callee (f := 14) rfl ?_); refine goesL_ (some 9) rfl rfl Try.func14 (by kernel_rfl) rfl #[.agg #[.slice A0_0 l0_0.length c0_0], .agg #[.slice A1_0 l1_0.length c1_0]] rfl (by (try simp only [List.map_toArray, List.map_cons, List.map_nil]); first | done | rfl | (simp only [List.length_drop, List.length_take]; rfl)) ?_; (with_reducible refine (laws_eqRow.calls k _ _ l0_0 _ _ l1_0 false _ ?side1 ?side2 ?side3 ?side4 A3.out).mono ?_); (case side1 => repeat (first | exact (Kd.C_below HR0_0.out HB.out) | (with_reducible refine Kd.C_alloc ?_ _) | (with_reducible refine Kd.C_drewN ?_ _) | (with_reducible refine Kd.C_drew ?_))); (case side2 => exact HC0_0.out); (case side3 => repeat (first | exact (Kd.C_below HR1_0.out HB.out) | (with_reducible refine Kd.C_alloc ?_ _) | (with_reducible refine Kd.C_drewN ?_ _) | (with_reducible refine Kd.C_drew ?_))); (case side4 => exact HC1_0.out); rintro e w36 ⟨rfl, hb⟩; refine ⟨_, rfl, ?_⟩; have n0_ := Aside0.mk (blk_below (g := gb101) (o := .cells #[.slice A0_0 l0_0.length c0_0, .int .i64 a0_1, .int .i64 a0_2] 30 (0, 0)) (by (with_reducible repeat (first | refine blk_drewN ?_ _ | refine blk_drew ?_ | refine blk_alloc ?_ _)); exact BK101.out) hb); have n1_ := Aside0.mk (blk_below (g := gb102) (o := .cells #[.slice A1_0 l1_0.length c1_0, .int .i64 a1_1, .int .i64 a1_2] 30 (0, 0)) (by (with_reducible repeat (first | refine blk_drewN ?_ _ | refine blk_drew ?_ | refine blk_alloc ?_ _)); exact BK102.out) hb); have n2_ := Aside0.mk (below_step (by repeat (first | (with_reducible first | exact HB.out | apply below_alloc | apply pw_below_drewN | apply below_drew1 | refine below_set ?_ GE101.out | refine below_set ?_ GE102.out) | exact HB.out)) hb); clear BK101; clear BK102; clear HB; have BK101 := n0_; have BK102 := n1_; have HB := n2_; clear n0_ n1_ n2_; (try clear hb); (try clear hb2); (try clear hk); (try clear hi)))
  go_ret
  exact ⟨by first | rfl | (simp [errW_none, errW_some] <;> rfl) | (simp [*, errW_none, errW_some] <;> rfl), by repeat (first | (with_reducible first | exact HB.out | apply below_alloc | apply pw_below_drewN | apply below_drew1 | refine below_set ?_ GE101.out | refine below_set ?_ GE102.out) | exact HB.out)⟩

end Go.Proofs.Ytbnmkikifjidjaa.Q
end
section
/- Contracts of a function, printed for this claim by a program of ours over the kit's print. -/
namespace Go.Proofs.Ytbnmkikifjidjaa.Q
open Go.RowKit Go.Proofs.YtbnmkikifjidjaaW.PrintWords Go.Proofs.YtbnmkikifjidjaaW.PrintLast Go.Proofs.YtbnmkikifjidjaaW.PrintMore
attribute [local go_sem] max2_int min2_int max_two min_two max_three min_three max_four min_four   -- for this text's walks alone
set_option linter.unusedVariables false
set_option linter.unusedSimpArgs false

/-! ### laws_eqGroupS: function 13 -/
def laws_eqGroupS.l0 : Nat → List (S30) → List (S30) → Int → Option (Bool)
 | 0, _, _, _ => none
 | k + 1, x0, x1, x5 => if x5 < (x0.length : Int) then (if 0 ≤ x5 then (if x5 < (x1.length : Int) then ((laws_eqGroup.f k ((rd_T30 x0 x5).f0.f0) ((rd_T30 x0 x5).f1) ((rd_T30 x0 x5).f2) ((rd_T30 x1 x5).f0.f0) ((rd_T30 x1 x5).f1) ((rd_T30 x1 x5).f2)).bind fun t103 => (if t103 = true then (laws_eqGroupS.l0 k x0 x1 (wrap64 (x5 + 1))) else (some false))) else (none)) else (none)) else (some true)
def laws_eqGroupS.f (k : Nat) (l0 : List (S30)) (l1 : List (S30)) : Option (Bool) := if (l0.length : Int) = (l1.length : Int) then (laws_eqGroupS.l0 k l0 l1 0) else (some false)
def laws_eqGroupS.T6 : Bool × List (List Nat × List Nat) := (true, [([], []), ([], []), ([0, 1], [0, 1]), ([2], [2]), ([], []), ([], []), ([4, 5], [4, 5]), ([6], [6]), ([3, 7], [3, 7]), ([8], [8])])
def laws_eqGroupS.B6 : List Nat := [0, 0, 3, 7, 0, 0, 48, 112, 255, 511]
theorem laws_eqGroupS.tab6 : rtab .any (opsOf Try.f13 6) = laws_eqGroupS.T6 := by kernel_rfl
theorem laws_eqGroupS.bits6 : waitsOk laws_eqGroupS.T6.2 laws_eqGroupS.B6 = true := by kernel_rfl
set_option maxHeartbeats 8000000 in
set_option maxRecDepth 100000 in
theorem laws_eqGroupS.calls (k : Nat) (A0 : Option Addr) (c0 : Nat) (l0 : List (S30)) (A1 : Option Addr) (c1 : Nat) (l1 : List (S30)) (r : Bool) (w : World) (hr0 : Kd.C k30 w A0 l0.length l0) (hc0 : l0.length ≤ c0) (hr1 : Kd.C k30 w A1 l1.length l1) (hc1 : l1.length ≤ c1) (h : laws_eqGroupS.f k l0 l1 = some r) :
  Calls Try.prog 13 #[.slice A0 l0.length c0, .slice A1 l1.length c1] w fun e w' => e = .returned (.bool r) ∧ Below w.heap.size w w' := by
 have hu30 := Try.underlying30
 have HR0 := Aside0.mk hr0
 have HC0 := Aside0.mk hc0
 clear hr0 hc0
 have HR1 := Aside0.mk hr1
 have HC1 := Aside0.mk hc1
 clear hr1 hc1
 have HB := Aside0.mk (Below.refl w.heap.size w)
 have H : (if (l0.length : Int) = (l1.length : Int) then (laws_eqGroupS.l0 k l0 l1 0) else (some false)) = some r := h
 clear h
 by_cases c3 : (l0.length : Int) = (l1.length : Int)
 ·rw [if_pos c3] at H
  have c3b0 : ((l0.length : Int) == (l1.length : Int)) = true := beq_iff_eq.mpr c3
  have c3b1 : ((l0.length : Int) != (l1.length : Int)) = false := bne_eq_false_iff_eq.mpr c3
  have c3b2 : (l0.length == l1.length) = true := by first | simpa using c3 | (simp at c3 ⊢; omega)
  clear c3
  have H' := Aside0.mk H
  clear H
  go_enter Try.func13, Try.ntmps13
  go_wp2
  go_loopg [5] k (fun kq v5 w' => ∃ (x5_1 : Int), v5 = .int .i64 x5_1 ∧ Aside0 (laws_eqGroupS.l0 kq l0 l1 x5_1 = some r) ∧ Aside0 (kq ≤ k) ∧ Aside0 (Below w.heap.size w w'))
  case atStart => exact ⟨(0), (by first | rfl | (simp; done) | (simp [*]; done)), H', ⟨Nat.le_refl _⟩, ⟨by repeat (first | (with_reducible first | exact HB.out | apply below_alloc | apply pw_below_drewN | apply below_drew1) | exact HB.out)⟩⟩
  case round =>
   clear H'
   try clear c1
   try clear p2
   try clear c3
   try clear c3b0
   try clear c3b1
   try clear c3b2
   obtain ⟨x5_1, rfl, HA, HK1, HB⟩ := hrel
   cases gk with
   | zero => exact absurd HA.out (by simp [laws_eqGroupS.l0])
   | succ k1 =>
    have H := HA.out
    clear HA
    simp only [laws_eqGroupS.l0] at H
    by_cases c4 : x5_1 < (l0.length : Int)
    ·rw [if_pos c4] at H
     have c4b0 : decide (x5_1 < (l0.length : Int)) = true := decide_eq_true c4
     clear c4
     by_cases c5 : 0 ≤ x5_1
     ·rw [if_pos c5] at H
      have c5b0 : decide (0 ≤ x5_1) = true := decide_eq_true c5
      clear c5
      by_cases c6 : x5_1 < (l1.length : Int)
      ·rw [if_pos c6] at H
       have c6b0 : decide (x5_1 < (l1.length : Int)) = true := decide_eq_true c6
       clear c6
       replace H := Option.bind_eq_some_iff.mp H
       obtain ⟨t103, A70, H⟩ := H
       replace H : (if t103 = true then (laws_eqGroupS.l0 k1 l0 l1 (wrap64 (x5_1 + 1))) else (some false)) = some r := H
       have A7 := Aside0.mk A70
       clear A70
       by_cases c8 : t103 = true
       ·subst c8
        have H1 : (laws_eqGroupS.l0 k1 l0 l1 (wrap64 (x5_1 + 1))) = some r := by rw [if_pos rfl] at H; exact H
        clear H
        have H := H1
        clear H1
        have H' := Aside0.mk H
        clear H
        try go_wp2
        have n0_ := Aside0.mk (below_drew1 HB.out)
        clear HB
        have HB := n0_
        clear n0_
        have p101 : 0 ≤ (x5_1 : Int) := of_decide_eq_true (by first | (with_reducible assumption) | assumption)
        have q101 : x5_1 < (l0.length : Int) := of_decide_eq_true (by first | (with_reducible assumption) | assumption)
        obtain ⟨ad101, A101_0, c101_0, e101, hx101_0, hx101_1, hx101_2, hl101_0, hi101_0⟩ := at_T30 HR0.out x5_1 p101 q101
        have hw101_2 := hx101_2
        have hw101_1 := hx101_1
        have hw101_0 := hx101_0
        cases e101
        replace hx101_0 := (HB.out.cell (World.block_lt_of_cell? w _ hx101_0)).trans hx101_0
        replace hx101_1 := (HB.out.cell (World.block_lt_of_cell? w _ hx101_1)).trans hx101_1
        replace hx101_2 := (HB.out.cell (World.block_lt_of_cell? w _ hx101_2)).trans hx101_2
        have HR101_0 := Aside0.mk hi101_0
        have HC101_0 := Aside0.mk hl101_0
        clear hi101_0 hl101_0
        replace p101 := eq_true p101
        replace q101 := eq_true q101
        have p102 : 0 ≤ (x5_1 : Int) := of_decide_eq_true (by first | (with_reducible assumption) | assumption)
        have q102 : x5_1 < (l1.length : Int) := of_decide_eq_true (by first | (with_reducible assumption) | assumption)
        obtain ⟨ad102, A102_0, c102_0, e102, hx102_0, hx102_1, hx102_2, hl102_0, hi102_0⟩ := at_T30 HR1.out x5_1 p102 q102
        have hw102_2 := hx102_2
        have hw102_1 := hx102_1
        have hw102_0 := hx102_0
        cases e102
        replace hx102_0 := (HB.out.cell (World.block_lt_of_cell? w _ hx102_0)).trans hx102_0
        replace hx102_1 := (HB.out.cell (World.block_lt_of_cell? w _ hx102_1)).trans hx102_1
        replace hx102_2 := (HB.out.cell (World.block_lt_of_cell? w _ hx102_2)).trans hx102_2
        have HR102_0 := Aside0.mk hi102_0
        have HC102_0 := Aside0.mk hl102_0
        clear hi102_0 hl102_0
        replace p102 := eq_true p102
        replace q102 := eq_true q102
        refine start_ (n := 10) (S := fun w' => w'.cell? (ad101.add ((x5_1).toNat * 3)) = some (.slice A101_0 ((rd_T30 l0 x5_1).f0.f0).length c101_0) ∧ w'.cell? ⟨(ad101.add ((x5_1).toNat * 3)).block, (ad101.add ((x5_1).toNat * 3)).off + 1, none⟩ = some (.int .i64 ((rd_T30 l0 x5_1).f1)) ∧ w'.cell? ⟨(ad101.add ((x5_1).toNat * 3)).block, (ad101.add ((x5_1).toNat * 3)).off + 2, none⟩ = some (.int .i64 ((rd_T30 l0 x5_1).f2)) ∧ w'.cell? (ad102.add ((x5_1).toNat * 3)) = some (.slice A102_0 ((rd_T30 l1 x5_1).f0.f0).length c102_0) ∧ w'.cell? ⟨(ad102.add ((x5_1).toNat * 3)).block, (ad102.add ((x5_1).toNat * 3)).off + 1, none⟩ = some (.int .i64 ((rd_T30 l1 x5_1).f1)) ∧ w'.cell? ⟨(ad102.add ((x5_1).toNat * 3)).block, (ad102.add ((x5_1).toNat * 3)).off + 2, none⟩ = some (.int .i64 ((rd_T30 l1 x5_1).f2))) (ds := []) #[false, false, false, false, false, false, false, false, false, false] (by kernel_rfl) rfl rfl ⟨((HB.out.cell (World.block_lt_of_cell? w _ hw101_0)).trans hw101_0), ((HB.out.cell (World.block_lt_of_cell? w _ hw101_1)).trans hw101_1), ((HB.out.cell (World.block_lt_of_cell? w _ hw101_2)).trans hw101_2), ((HB.out.cell (World.block_lt_of_cell? w _ hw102_0)).trans hw102_0), ((HB.out.cell (World.block_lt_of_cell? w _ hw102_1)).trans hw102_1), ((HB.out.cell (World.block_lt_of_cell? w _ hw102_2)).trans hw102_2)⟩ (fun hHeld => ?_); refine with_tabW laws_eqGroupS.tab6 laws_eqGroupS.bits6 (fun HT_ HW_ => ?_)
        generalize wr.drew = w9 at HB HR101_0 HR102_0 hx101_0 hx101_1 hx101_2 hx102_0 hx102_1 hx102_2 hHeld ⊢
        refine pure_ (i := 0) (N := some 17) (v := ?_) (a' := ?_) #[true, false, false, false, false, false, false, false, false, false] rfl rfl (any_of HT_.out (by kernel_rfl)) (fun _ _ _ h => h) (Or.inl ⟨by rfl, ?_⟩) ?_ ?_
        rotate_left
        ·intro w'
         go_simp
         with_reducible rfl
        rotate_left
        ·simp only [Act.put, List.setIfInBounds_toArray, List.set_cons_zero, List.set_cons_succ, i64_w, i32_w]
         rfl
        refine pure_ (i := 1) (N := some 18) (v := ?_) (a' := ?_) #[true, true, false, false, false, false, false, false, false, false] rfl rfl (any_of HT_.out (by kernel_rfl)) (fun _ _ _ h => h) (Or.inl ⟨by rfl, ?_⟩) ?_ ?_
        rotate_left
        ·intro w'
         go_simp
         with_reducible rfl
        rotate_left
        ·simp only [Act.put, List.setIfInBounds_toArray, List.set_cons_zero, List.set_cons_succ, i64_w, i32_w]
         rfl
        refine pure_ (i := 2) (N := some 19) (v := ?_) (a' := ?_) #[true, true, true, false, false, false, false, false, false, false] rfl rfl (any_of HT_.out (by kernel_rfl)) (fun _ _ _ h => h) (Or.inl ⟨by rfl, ?_⟩) ?_ ?_
        rotate_left
        ·intro w'
         go_simp
         with_reducible rfl
        rotate_left
        ·simp only [Act.put, List.setIfInBounds_toArray, List.set_cons_zero, List.set_cons_succ, i64_w, i32_w]
         rfl
        refine pure_ (i := 4) (N := some 21) (v := ?_) (a' := ?_) #[true, true, true, false, true, false, false, false, false, false] rfl rfl (any_of HT_.out (by kernel_rfl)) (fun _ _ _ h => h) (Or.inl ⟨by rfl, ?_⟩) ?_ ?_
        rotate_left
        ·intro w'
         go_simp
         with_reducible rfl
        rotate_left
        ·simp only [Act.put, List.setIfInBounds_toArray, List.set_cons_zero, List.set_cons_succ, i64_w, i32_w]
         rfl
        refine pure_ (i := 5) (N := some 22) (v := ?_) (a' := ?_) #[true, true, true, false, true, true, false, false, false, false] rfl rfl (any_of HT_.out (by kernel_rfl)) (fun _ _ _ h => h) (Or.inl ⟨by rfl, ?_⟩) ?_ ?_
        rotate_left
        ·intro w'
         go_simp
         with_reducible rfl
        rotate_left
        ·simp only [Act.put, List.setIfInBounds_toArray, List.set_cons_zero, List.set_cons_succ, i64_w, i32_w]
         rfl
        refine pure_ (i := 6) (N := some 23) (v := ?_) (a' := ?_) #[true, true, true, false, true, true, true, false, false, false] rfl rfl (any_of HT_.out (by kernel_rfl)) (fun _ _ _ h => h) (Or.inl ⟨by rfl, ?_⟩) ?_ ?_
        rotate_left
        ·intro w'
         go_simp
         with_reducible rfl
        rotate_left
        ·simp only [Act.put, List.setIfInBounds_toArray, List.set_cons_zero, List.set_cons_succ, i64_w, i32_w]
         rfl
        refine take_ (i := 3) (N := some 20) (v := ?_) (a' := ?_) #[true, true, true, true, true, true, true, false, false, false] rfl rfl (take_ofW HT_.out HW_.out (by kernel_rfl)) (fun _ _ _ h => h) (Or.inl ⟨by rfl, ?_⟩) hHeld ?_ ?_
        rotate_left
        ·rintro w' ⟨s0, s1, s2, s3, s4, s5⟩
         go_simp
         with_reducible rfl
        rotate_left
        ·simp only [Act.put, List.setIfInBounds_toArray, List.set_cons_zero, List.set_cons_succ, i64_w, i32_w]
         rfl
        refine take_ (i := 7) (N := some 24) (v := ?_) (a' := ?_) #[true, true, true, true, true, true, true, true, false, false] rfl rfl (take_ofW HT_.out HW_.out (by kernel_rfl)) (fun _ _ _ h => h) (Or.inl ⟨by rfl, ?_⟩) hHeld ?_ ?_
        rotate_left
        ·rintro w' ⟨s0, s1, s2, s3, s4, s5⟩
         go_simp
         with_reducible rfl
        rotate_left
        ·simp only [Act.put, List.setIfInBounds_toArray, List.set_cons_zero, List.set_cons_succ, i64_w, i32_w]
         rfl
        refine one_ (i := 8) (N := some 25) #[true, true, true, true, true, true, true, true, true, false] rfl rfl (one_of HT_.out (by kernel_rfl)) (by decide) (fun K hK => ?_)
        refine goes_ Try.func12 (by kernel_rfl) rfl #[.agg #[.slice A101_0 ((rd_T30 l0 x5_1).f0.f0).length c101_0, .int .i64 ((rd_T30 l0 x5_1).f1), .int .i64 ((rd_T30 l0 x5_1).f2)], .agg #[.slice A102_0 ((rd_T30 l1 x5_1).f0.f0).length c102_0, .int .i64 ((rd_T30 l1 x5_1).f1), .int .i64 ((rd_T30 l1 x5_1).f2)]] (by rfl) rfl rfl (by (try simp only [List.map_toArray, List.map_cons, List.map_nil]); first | done | rfl | (simp only [List.length_drop, List.length_take]; rfl)) ?_
        with_reducible refine (laws_eqGroup.calls k1 _ _ ((rd_T30 l0 x5_1).f0.f0) ((rd_T30 l0 x5_1).f1) ((rd_T30 l0 x5_1).f2) _ _ ((rd_T30 l1 x5_1).f0.f0) ((rd_T30 l1 x5_1).f1) ((rd_T30 l1 x5_1).f2) true _ ?side1 ?side2 ?side3 ?side4 A7.out).mono ?_
        (case side1 => repeat (first | exact (Kd.C_below HR101_0.out HB.out) | (with_reducible refine Kd.C_alloc ?_ _) | (with_reducible refine Kd.C_drewN ?_ _) | (with_reducible refine Kd.C_drew ?_)))
        (case side2 => exact HC101_0.out)
        (case side3 => repeat (first | exact (Kd.C_below HR102_0.out HB.out) | (with_reducible refine Kd.C_alloc ?_ _) | (with_reducible refine Kd.C_drewN ?_ _) | (with_reducible refine Kd.C_drew ?_)))
        (case side4 => exact HC102_0.out)
        rintro e w10 ⟨rfl, hb⟩
        refine ⟨_, rfl, ?_⟩
        have n0_ := Aside0.mk (below_step (by repeat (first | (with_reducible first | exact HB.out | apply below_alloc | apply pw_below_drewN | apply below_drew1) | exact HB.out)) hb)
        clear HB
        have HB := n0_
        clear n0_
        (try clear hb)
        (try clear hb2)
        (try clear hk)
        (try clear hi)
        refine hK.out _ _ ⟨((HB.out.cell (World.block_lt_of_cell? w _ hw101_0)).trans hw101_0), ((HB.out.cell (World.block_lt_of_cell? w _ hw101_1)).trans hw101_1), ((HB.out.cell (World.block_lt_of_cell? w _ hw101_2)).trans hw101_2), ((HB.out.cell (World.block_lt_of_cell? w _ hw102_0)).trans hw102_0), ((HB.out.cell (World.block_lt_of_cell? w _ hw102_1)).trans hw102_1), ((HB.out.cell (World.block_lt_of_cell? w _ hw102_2)).trans hw102_2)⟩ (fun hHeld => ?_)
        clear hK K
        refine norm_ (a' := ?_) ?_ ?_
        rotate_left
        ·show Act.put _ (some 25) _ = _
         simp only [Act.put, List.setIfInBounds_toArray, List.set_cons_zero, List.set_cons_succ, i64_w, i32_w]
         rfl
        refine pure_ (i := 9) (N := some 26) (v := ?_) (a' := ?_) #[true, true, true, true, true, true, true, true, true, true] rfl rfl (any_of HT_.out (by kernel_rfl)) (fun _ _ _ h => h) (Or.inl ⟨by rfl, ?_⟩) ?_ ?_
        rotate_left
        ·intro w'
         go_simp
         with_reducible rfl
        rotate_left
        ·simp only [Act.put, List.setIfInBounds_toArray, List.set_cons_zero, List.set_cons_succ, i64_w, i32_w]
         rfl
        refine done_ (done_of HT_.out (by kernel_rfl)) ?_
        try go_wp2
        go_roundg k1
        case measure => have := HK1.out; omega
        case rel => exact ⟨(wrap64 (x5_1 + 1)), (by first | rfl | (simp; done) | (simp [*]; done)), H', ⟨by have := HK1.out; omega⟩, ⟨by repeat (first | (with_reducible first | exact HB.out | apply below_alloc | apply pw_below_drewN | apply below_drew1) | exact HB.out)⟩⟩
       ·replace c8 := Bool.eq_false_iff.mpr c8
        subst c8
        have H1 : (some false) = some r := by rw [if_neg (show ¬ (false = true) by decide)] at H; exact H
        clear H
        have H := H1
        clear H1
        obtain rfl := Option.some.inj H
        try go_wp2
        have n0_ := Aside0.mk (below_drew1 HB.out)
        clear HB
        have HB := n0_
        clear n0_
        have p101 : 0 ≤ (x5_1 : Int) := of_decide_eq_true (by first | (with_reducible assumption) | assumption)
        have q101 : x5_1 < (l0.length : Int) := of_decide_eq_true (by first | (with_reducible assumption) | assumption)
        obtain ⟨ad101, A101_0, c101_0, e101, hx101_0, hx101_1, hx101_2, hl101_0, hi101_0⟩ := at_T30 HR0.out x5_1 p101 q101
        have hw101_2 := hx101_2
        have hw101_1 := hx101_1
        have hw101_0 := hx101_0
        cases e101
        replace hx101_0 := (HB.out.cell (World.block_lt_of_cell? w _ hx101_0)).trans hx101_0
        replace hx101_1 := (HB.out.cell (World.block_lt_of_cell? w _ hx101_1)).trans hx101_1
        replace hx101_2 := (HB.out.cell (World.block_lt_of_cell? w _ hx101_2)).trans hx101_2
        have HR101_0 := Aside0.mk hi101_0
        have HC101_0 := Aside0.mk hl101_0
        clear hi101_0 hl101_0
        replace p101 := eq_true p101
        replace q101 := eq_true q101
        have p102 : 0 ≤ (x5_1 : Int) := of_decide_eq_true (by first | (with_reducible assumption) | assumption)
        have q102 : x5_1 < (l1.length : Int) := of_decide_eq_true (by first | (with_reducible assumption) | assumption)
        obtain ⟨ad102, A102_0, c102_0, e102, hx102_0, hx102_1, hx102_2, hl102_0, hi102_0⟩ := at_T30 HR1.out x5_1 p102 q102
        have hw102_2 := hx102_2
        have hw102_1 := hx102_1
        have hw102_0 := hx102_0
        cases e102
        replace hx102_0 := (HB.out.cell (World.block_lt_of_cell? w _ hx102_0)).trans hx102_0
        replace hx102_1 := (HB.out.cell (World.block_lt_of_cell? w _ hx102_1)).trans hx102_1
        replace hx102_2 := (HB.out.cell (World.block_lt_of_cell? w _ hx102_2)).trans hx102_2
        have HR102_0 := Aside0.mk hi102_0
        have HC102_0 := Aside0.mk hl102_0
        clear hi102_0 hl102_0
        replace p102 := eq_true p102
        replace q102 := eq_true q102
        refine start_ (n := 10) (S := fun w' => w'.cell? (ad101.add ((x5_1).toNat * 3)) = some (.slice A101_0 ((rd_T30 l0 x5_1).f0.f0).length c101_0) ∧ w'.cell? ⟨(ad101.add ((x5_1).toNat * 3)).block, (ad101.add ((x5_1).toNat * 3)).off + 1, none⟩ = some (.int .i64 ((rd_T30 l0 x5_1).f1)) ∧ w'.cell? ⟨(ad101.add ((x5_1).toNat * 3)).block, (ad101.add ((x5_1).toNat * 3)).off + 2, none⟩ = some (.int .i64 ((rd_T30 l0 x5_1).f2)) ∧ w'.cell? (ad102.add ((x5_1).toNat * 3)) = some (.slice A102_0 ((rd_T30 l1 x5_1).f0.f0).length c102_0) ∧ w'.cell? ⟨(ad102.add ((x5_1).toNat * 3)).block, (ad102.add ((x5_1).toNat * 3)).off + 1, none⟩ = some (.int .i64 ((rd_T30 l1 x5_1).f1)) ∧ w'.cell? ⟨(ad102.add ((x5_1).toNat * 3)).block, (ad102.add ((x5_1).toNat * 3)).off + 2, none⟩ = some (.int .i64 ((rd_T30 l1 x5_1).f2))) (ds := []) #[false, false, false, false, false, false, false, false, false, false] (by kernel_rfl) rfl rfl ⟨((HB.out.cell (World.block_lt_of_cell? w _ hw101_0)).trans hw101_0), ((HB.out.cell (World.block_lt_of_cell? w _ hw101_1)).trans hw101_1), ((HB.out.cell (World.block_lt_of_cell? w _ hw101_2)).trans hw101_2), ((HB.out.cell (World.block_lt_of_cell? w _ hw102_0)).trans hw102_0), ((HB.out.cell (World.block_lt_of_cell? w _ hw102_1)).trans hw102_1), ((HB.out.cell (World.block_lt_of_cell? w _ hw102_2)).trans hw102_2)⟩ (fun hHeld => ?_); refine with_tabW laws_eqGroupS.tab6 laws_eqGroupS.bits6 (fun HT_ HW_ => ?_)
        generalize wr.drew = w11 at HB HR101_0 HR102_0 hx101_0 hx101_1 hx101_2 hx102_0 hx102_1 hx102_2 hHeld ⊢
        refine pure_ (i := 0) (N := some 17) (v := ?_) (a' := ?_) #[true, false, false, false, false, false, false, false, false, false] rfl rfl (any_of HT_.out (by kernel_rfl)) (fun _ _ _ h => h) (Or.inl ⟨by rfl, ?_⟩) ?_ ?_
        rotate_left
        ·intro w'
         go_simp
         with_reducible rfl
        rotate_left
        ·simp only [Act.put, List.setIfInBounds_toArray, List.set_cons_zero, List.set_cons_succ, i64_w, i32_w]
         rfl
        refine pure_ (i := 1) (N := some 18) (v := ?_) (a' := ?_) #[true, true, false, false, false, false, false, false, false, false] rfl rfl (any_of HT_.out (by kernel_rfl)) (fun _ _ _ h => h) (Or.inl ⟨by rfl, ?_⟩) ?_ ?_
        rotate_left
        ·intro w'
         go_simp
         with_reducible rfl
        rotate_left
        ·simp only [Act.put, List.setIfInBounds_toArray, List.set_cons_zero, List.set_cons_succ, i64_w, i32_w]
         rfl
        refine pure_ (i := 2) (N := some 19) (v := ?_) (a' := ?_) #[true, true, true, false, false, false, false, false, false, false] rfl rfl (any_of HT_.out (by kernel_rfl)) (fun _ _ _ h => h) (Or.inl ⟨by rfl, ?_⟩) ?_ ?_
        rotate_left
        ·intro w'
         go_simp
         with_reducible rfl
        rotate_left
        ·simp only [Act.put, List.setIfInBounds_toArray, List.set_cons_zero, List.set_cons_succ, i64_w, i32_w]
         rfl
        refine pure_ (i := 4) (N := some 21) (v := ?_) (a' := ?_) #[true, true, true, false, true, false, false, false, false, false] rfl rfl (any_of HT_.out (by kernel_rfl)) (fun _ _ _ h => h) (Or.inl ⟨by rfl, ?_⟩) ?_ ?_
        rotate_left
        ·intro w'
         go_simp
         with_reducible rfl
        rotate_left
        ·simp only [Act.put, List.setIfInBounds_toArray, List.set_cons_zero, List.set_cons_succ, i64_w, i32_w]
         rfl
        refine pure_ (i := 5) (N := some 22) (v := ?_) (a' := ?_) #[true, true, true, false, true, true, false, false, false, false] rfl rfl (any_of HT_.out (by kernel_rfl)) (fun _ _ _ h => h) (Or.inl ⟨by rfl, ?_⟩) ?_ ?_
        rotate_left
        ·intro w'
         go_simp
         with_reducible rfl
        rotate_left
        ·simp only [Act.put, List.setIfInBounds_toArray, List.set_cons_zero, List.set_cons_succ, i64_w, i32_w]
         rfl
        refine pure_ (i := 6) (N := some 23) (v := ?_) (a' := ?_) #[true, true, true, false, true, true, true, false, false, false] rfl rfl (any_of HT_.out (by kernel_rfl)) (fun _ _ _ h => h) (Or.inl ⟨by rfl, ?_⟩) ?_ ?_
        rotate_left
        ·intro w'
         go_simp
         with_reducible rfl
        rotate_left
        ·simp only [Act.put, List.setIfInBounds_toArray, List.set_cons_zero, List.set_cons_succ, i64_w, i32_w]
         rfl
        refine take_ (i := 3) (N := some 20) (v := ?_) (a' := ?_) #[true, true, true, true, true, true, true, false, false, false] rfl rfl (take_ofW HT_.out HW_.out (by kernel_rfl)) (fun _ _ _ h => h) (Or.inl ⟨by rfl, ?_⟩) hHeld ?_ ?_
        rotate_left
        ·rintro w' ⟨s0, s1, s2, s3, s4, s5⟩
         go_simp
         with_reducible rfl
        rotate_left
        ·simp only [Act.put, List.setIfInBounds_toArray, List.set_cons_zero, List.set_cons_succ, i64_w, i32_w]
         rfl
        refine take_ (i := 7) (N := some 24) (v := ?_) (a' := ?_) #[true, true, true, true, true, true, true, true, false, false] rfl rfl (take_ofW HT_.out HW_.out (by kernel_rfl)) (fun _ _ _ h => h) (Or.inl ⟨by rfl, ?_⟩) hHeld ?_ ?_
        rotate_left
        ·rintro w' ⟨s0, s1, s2, s3, s4, s5⟩
         go_simp
         with_reducible rfl
        rotate_left
        ·simp only [Act.put, List.setIfInBounds_toArray, List.set_cons_zero, List.set_cons_succ, i64_w, i32_w]
         rfl
        refine one_ (i := 8) (N := some 25) #[true, true, true, true, true, true, true, true, true, false] rfl rfl (one_of HT_.out (by kernel_rfl)) (by decide) (fun K hK => ?_)
        refine goes_ Try.func12 (by kernel_rfl) rfl #[.agg #[.slice A101_0 ((rd_T30 l0 x5_1).f0.f0).length c101_0, .int .i64 ((rd_T30 l0 x5_1).f1), .int .i64 ((rd_T30 l0 x5_1).f2)], .agg #[.slice A102_0 ((rd_T30 l1 x5_1).f0.f0).length c102_0, .int .i64 ((rd_T30 l1 x5_1).f1), .int .i64 ((rd_T30 l1 x5_1).f2)]] (by rfl) rfl rfl (by (try simp only [List.map_toArray, List.map_cons, List.map_nil]); first | done | rfl | (simp only [List.length_drop, List.length_take]; rfl)) ?_
        with_reducible refine (laws_eqGroup.calls k1 _ _ ((rd_T30 l0 x5_1).f0.f0) ((rd_T30 l0 x5_1).f1) ((rd_T30 l0 x5_1).f2) _ _ ((rd_T30 l1 x5_1).f0.f0) ((rd_T30 l1 x5_1).f1) ((rd_T30 l1 x5_1).f2) false _ ?side1 ?side2 ?side3 ?side4 A7.out).mono ?_
        (case side1 => repeat (first | exact (Kd.C_below HR101_0.out HB.out) | (with_reducible refine Kd.C_alloc ?_ _) | (with_reducible refine Kd.C_drewN ?_ _) | (with_reducible refine Kd.C_drew ?_)))
        (case side2 => exact HC101_0.out)
        (case side3 => repeat (first | exact (Kd.C_below HR102_0.out HB.out) | (with_reducible refine Kd.C_alloc ?_ _) | (with_reducible refine Kd.C_drewN ?_ _) | (with_reducible refine Kd.C_drew ?_)))
        (case side4 => exact HC102_0.out)
        rintro e w12 ⟨rfl, hb⟩
        refine ⟨_, rfl, ?_⟩
        have n0_ := Aside0.mk (below_step (by repeat (first | (with_reducible first | exact HB.out | apply below_alloc | apply pw_below_drewN | apply below_drew1) | exact HB.out)) hb)
        clear HB
        have HB := n0_
        clear n0_
        (try clear hb)
        (try clear hb2)
        (try clear hk)
        (try clear hi)
        refine hK.out _ _ ⟨((HB.out.cell (World.block_lt_of_cell? w _ hw101_0)).trans hw101_0), ((HB.out.cell (World.block_lt_of_cell? w _ hw101_1)).trans hw101_1), ((HB.out.cell (World.block_lt_of_cell? w _ hw101_2)).trans hw101_2), ((HB.out.cell (World.block_lt_of_cell? w _ hw102_0)).trans hw102_0), ((HB.out.cell (World.block_lt_of_cell? w _ hw102_1)).trans hw102_1), ((HB.out.cell (World.block_lt_of_cell? w _ hw102_2)).trans hw102_2)⟩ (fun hHeld => ?_)
        clear hK K
        refine norm_ (a' := ?_) ?_ ?_
        rotate_left
        ·show Act.put _ (some 25) _ = _
         simp only [Act.put, List.setIfInBounds_toArray, List.set_cons_zero, List.set_cons_succ, i64_w, i32_w]
         rfl
        refine pure_ (i := 9) (N := some 26) (v := ?_) (a' := ?_) #[true, true, true, true, true, true, true, true, true, true] rfl rfl (any_of HT_.out (by kernel_rfl)) (fun _ _ _ h => h) (Or.inl ⟨by rfl, ?_⟩) ?_ ?_
        rotate_left
        ·intro w'
         go_simp
         with_reducible rfl
        rotate_left
        ·simp only [Act.put, List.setIfInBounds_toArray, List.set_cons_zero, List.set_cons_succ, i64_w, i32_w]
         rfl
        refine done_ (done_of HT_.out (by kernel_rfl)) ?_
        try go_wp2
        go_ret
        exact ⟨by first | rfl | (simp [errW_none, errW_some] <;> rfl) | (simp [*, errW_none, errW_some] <;> rfl), by repeat (first | (with_reducible first | exact HB.out | apply below_alloc | apply pw_below_drewN | apply below_drew1) | exact HB.out)⟩
      ·rw [if_neg c6] at H
       exact absurd H (by simp)
     ·rw [if_neg c5] at H
      exact absurd H (by simp)
    ·rw [if_neg c4] at H
     have c4b0 : decide (x5_1 < (l0.length : Int)) = false := decide_eq_false c4
     clear c4
     obtain rfl := Option.some.inj H
     go_wp2
     go_ret
     exact ⟨by first | rfl | (simp [errW_none, errW_some] <;> rfl) | (simp [*, errW_none, errW_some] <;> rfl), by repeat (first | (with_reducible first | exact HB.out | apply below_alloc | apply pw_below_drewN | apply below_drew1) | exact HB.out)⟩
 ·rw [if_neg c3] at H
  have c3b0 : ((l0.length : Int) == (l1.length : Int)) = false := beq_eq_false_iff_ne.mpr c3
  have c3b1 : ((l0.length : Int) != (l1.length : Int)) = true := bne_iff_ne.mpr c3
  have c3b2 : (l0.length == l1.length) = false := by first | simpa using c3 | (simp at c3 ⊢; omega)
  obtain rfl := Option.some.inj H
  go_enter Try.func13, Try.ntmps13
  go_wp2
  go_ret
  exact ⟨by first | rfl | (simp [errW_none, errW_some] <;> rfl) | (simp [*, errW_none, errW_some] <;> rfl), by repeat (first | (with_reducible first | exact HB.out | apply below_alloc | apply pw_below_drewN | apply below_drew1) | exact HB.out)⟩

end Go.Proofs.Ytbnmkikifjidjaa.Q
end
section
/- Contracts of a function, printed for this claim by a program of ours over the kit's print. -/
namespace Go.Proofs.Ytbnmkikifjidjaa.Q
open Go.RowKit Go.Proofs.YtbnmkikifjidjaaW.PrintWords Go.Proofs.YtbnmkikifjidjaaW.PrintLast Go.Proofs.YtbnmkikifjidjaaW.PrintMore
attribute [local go_sem] max2_int min2_int max_two min_two max_three min_three max_four min_four   -- for this text's walks alone
set_option linter.unusedVariables false
set_option linter.unusedSimpArgs false

/-! ### laws_markIntS: function 50 -/
def laws_markIntS.l0 : Nat → List Int → Int → Int → Option (Int × List Int)
 | 0, _, _, _ => none
 | k + 1, x0, x1, x5 => if x5 < (x0.length : Int) then (if 0 ≤ x5 then (laws_markIntS.l0 k (x0.set (x5 : Int).toNat x1) (wrap64 (x1 + 1)) (wrap64 (x5 + 1))) else (none)) else (some (x1, x0))
def laws_markIntS.f (k : Nat) (l0 : List Int) (a1 : Int) : Option (Int × List Int) := laws_markIntS.l0 k l0 a1 0
set_option maxHeartbeats 8000000 in
set_option maxRecDepth 100000 in
theorem laws_markIntS.calls (k : Nat) (P0_ : Nat → Prop) (u9000_ : Value) (l0 : List Int) (a1 : Int) (r1 : Int) (r2 : List Int) (w0 w : World) (hB : Below w0.heap.size w0 w) (ho0 : Kd.R (Kd.int .i64) 3 w w0.heap.size P0_ u9000_ l0) (h : laws_markIntS.f k l0 a1 = some (r1, r2)) :
  Calls Try.prog 50 #[u9000_, .int .i64 a1] w fun e w' => e = .returned (.int .i64 r1) ∧ Kd.R (Kd.int .i64) 3 w' w0.heap.size (fun k_ => (P0_ k_ ∨ w.heap.size ≤ k_)) u9000_ r2 ∧ Below w0.heap.size w0 w' ∧ Kept w w' (fun k_ => P0_ k_) := by
 have HO0 := Aside0.mk (show Kd.R (Kd.int .i64) 3 w w0.heap.size (fun k_ => (P0_ k_ ∨ w.heap.size ≤ k_)) u9000_ l0 from Kd.R_mono ho0 (fun k_ hk => (.inl hk)))
 have HK := Aside0.mk (Kept.refl w (fun k_ => P0_ k_))
 have HW0 := Aside0.mk hB.size
 have HB := Aside0.mk hB
 clear hB
 have H : (laws_markIntS.l0 k l0 a1 0) = some (r1, r2) := h
 clear h
 have H' := Aside0.mk H
 clear H
 go_enter Try.func50, Try.ntmps50
 go_wp2
 go_loopg [1, 5] k (fun kq v1 v5 w' => ∃ (x0_1 : List Int) (x1_1 : Int) (x5_1 : Int), v1 = .int .i64 x1_1 ∧ v5 = .int .i64 x5_1 ∧ Aside0 (laws_markIntS.l0 kq x0_1 x1_1 x5_1 = some (r1, r2)) ∧ Aside0 (kq ≤ k) ∧ Aside0 (Kd.R (Kd.int .i64) 3 w' w0.heap.size (fun k_ => (P0_ k_ ∨ w.heap.size ≤ k_)) u9000_ x0_1) ∧ Aside0 (Kept w w' (fun k_ => P0_ k_)) ∧ Aside0 (Below w0.heap.size w0 w'))
 case atStart => exact ⟨(l0), (a1), (0), (by first | rfl | (simp; done) | (simp [*]; done)), (by first | rfl | (simp; done) | (simp [*]; done)), H', ⟨Nat.le_refl _⟩, ⟨by (with_reducible repeat (first | apply Kd.R_alloc | apply Kd.R_drewN | apply Kd.R_drew)); exact HO0.out⟩, ⟨by repeat (first | (with_reducible first | exact HK.out | apply Kept.alloc | apply Kept.drewN | apply Kept.drew) | exact HK.out)⟩, ⟨by repeat (first | (with_reducible first | exact HB.out | apply below_alloc | apply pw_below_drewN | apply below_drew1) | exact HB.out)⟩⟩
 case round =>
  clear H'
  try clear p2
  obtain ⟨x0_1, x1_1, x5_1, rfl, rfl, HA, HK1, HO_0, HK, HB⟩ := hrel
  cases gk with
  | zero => exact absurd HA.out (by simp [laws_markIntS.l0])
  | succ k1 =>
   have H := HA.out
   clear HA
   simp only [laws_markIntS.l0] at H
   by_cases c3 : x5_1 < (x0_1.length : Int)
   ·rw [if_pos c3] at H
    have c3b0 : decide (x5_1 < (x0_1.length : Int)) = true := decide_eq_true c3
    clear c3
    by_cases c4 : 0 ≤ x5_1
    ·rw [if_pos c4] at H
     have c4b0 : decide (0 ≤ x5_1) = true := decide_eq_true c4
     clear c4
     obtain ⟨y101, hy101⟩ : ∃ y_ : List Int, y_ = (x0_1.set (x5_1 : Int).toNat x1_1) := ⟨_, rfl⟩
     replace H : (laws_markIntS.l0 k1 y101 (wrap64 (x1_1 + 1)) (wrap64 (x5_1 + 1))) = some (r1, r2) := by first | (rw [hy101]; with_reducible exact H) | (have H2_ := (Option.bind_some _ _).symm.trans H; rw [hy101]; with_reducible exact H2_) | (have H2_ := (Option.bind_some _ _).symm.trans H; with_reducible exact H2_) | with_reducible exact H | (rw [hy101]; exact H) | exact H
     have Ny101 := Aside0.mk hy101
     clear hy101
     have H' := Aside0.mk H
     clear H
     obtain ⟨Ao6, co6, eo6⟩ := Kd.R_slice HO_0.out
     subst eo6
     have p5 : 0 ≤ (x5_1 : Int) := of_decide_eq_true (by first | (with_reducible assumption) | assumption)
     have q5 : (x5_1 : Int) < ((x0_1.length : Int) : Int) := of_decide_eq_true (by first | (with_reducible assumption) | assumption)
     obtain ⟨go5, co5, eo5, gb5, gl5, cl5, HG5⟩ := Kd.R_form HO_0.out (by omega)
     (first | cases eo5 | (injection eo5 with ea_ en_ ec_; (first | subst ea_ | (injection ea_ with ea_; subst ea_)); subst ec_; clear en_))
     have GB5 := Aside0.mk gb5
     have GG5 := Aside0.mk HG5
     clear gb5 gl5 HG5
     have HMgo5 := Aside0.mk (show (P0_ go5 ∨ w.heap.size ≤ go5) from (HO_0.out.1 _ rfl))
     obtain ⟨hx5_0, hf5_0⟩ := Kd.R_celln 0 HO_0.out (x5_1 : Int) p5 q5
     replace p5 := eq_true p5
     replace q5 := eq_true q5
     have HP7 := Kd.R_putg HO_0.out (x5_1 : Int) x1_1
     go_wp2_with (first | ((with_reducible refine gate_store (t := 3) (p := 15) rfl ?_); refine store_event (t := 3) (p := 15) (v := ?vo_w8) (w1 := (wr.setCell ⟨go5, (x5_1 : Int).toNat, none⟩ (.int .i64 x1_1))) ?hg ?ho ?hn ?hr ?_; (case ho => rfl); (case hg => rfl); (case hn => rfl); (case hr => first | (go_simp; done) | (go_simp; rfl)); intro w8 hw; have hg : wr.grownBy w8 (some go5) := (by rw [hw]; exact HP7.2); have hp_ : Kd.R (Kd.int .i64) 3 w8 w0.heap.size (fun k_ => (P0_ k_ ∨ w.heap.size ≤ k_)) (.slice (some ⟨go5, 0, none⟩) x0_1.length co6) y101 := (by rw [hw, Ny101.out]; exact HP7.1); clear HP7; have n0_ := Aside0.mk (hp_); have n1_ := Aside0.mk ((by rw [hw]; exact below_set (HB.out) GB5.out : Below w0.heap.size w0 w8)); have n2_ := Aside0.mk (Kept.of_grown (S := (fun k_ => P0_ k_)) hg (by repeat (first | (with_reducible first | exact HK.out | apply Kept.alloc | apply Kept.drewN | apply Kept.drew) | exact HK.out)) (fun k_ e_ => (HO_0.out.1 k_ e_))); clear HO_0; clear HB; clear HK; have HO_0 := n0_; have HB := n1_; have HK := n2_; clear n0_ n1_ n2_; clear hg hw hp_))
     go_roundg k1
     case measure => have := HK1.out; omega
     case rel => exact ⟨(y101), (wrap64 (x1_1 + 1)), (wrap64 (x5_1 + 1)), (by first | rfl | (simp; done) | (simp [*]; done)), (by first | rfl | (simp; done) | (simp [*]; done)), H', ⟨by have := HK1.out; omega⟩, ⟨by (with_reducible repeat (first | apply Kd.R_alloc | apply Kd.R_drewN | apply Kd.R_drew)); exact HO_0.out⟩, ⟨by repeat (first | (with_reducible first | exact HK.out | apply Kept.alloc | apply Kept.drewN | apply Kept.drew) | exact HK.out)⟩, ⟨by repeat (first | (with_reducible first | exact HB.out | apply below_alloc | apply pw_below_drewN | apply below_drew1) | exact HB.out)⟩⟩
    ·rw [if_neg c4] at H
     exact absurd H (by simp)
   ·rw [if_neg c3] at H
    have c3b0 : decide (x5_1 < (x0_1.length : Int)) = false := decide_eq_false c3
    clear c3
    simp only [Option.some.injEq, Prod.mk.injEq] at H
    obtain ⟨rfl, rfl⟩ := H
    obtain ⟨Ao9, co9, eo9⟩ := Kd.R_slice HO_0.out
    subst eo9
    go_wp2
    go_ret
    exact ⟨by first | rfl | (simp [errW_none, errW_some] <;> rfl) | (simp [*, errW_none, errW_some] <;> rfl), by (with_reducible repeat (first | apply Kd.R_alloc | apply Kd.R_drewN | apply Kd.R_drew)); exact HO_0.out, by repeat (first | (with_reducible first | exact HB.out | apply below_alloc | apply pw_below_drewN | apply below_drew1) | exact HB.out), by repeat (first | (with_reducible first | exact HK.out | apply Kept.alloc | apply Kept.drewN | apply Kept.drew) | exact HK.out)⟩

end Go.Proofs.Ytbnmkikifjidjaa.Q
end
section
/- Contracts of a function, printed for this claim by a program of ours over the kit's print. -/
namespace Go.Proofs.Ytbnmkikifjidjaa.Q
open Go.RowKit Go.Proofs.YtbnmkikifjidjaaW.PrintWords Go.Proofs.YtbnmkikifjidjaaW.PrintLast Go.Proofs.YtbnmkikifjidjaaW.PrintMore
attribute [local go_sem] max2_int min2_int max_two min_two max_three min_three max_four min_four   -- for this text's walks alone
set_option linter.unusedVariables false
set_option linter.unusedSimpArgs false

/-! ### laws_markRow: function 16 -/
def laws_markRow.f (k : Nat) (l0_0 : List Int) (a1 : Int) : Option (Int × List Int) := (laws_markIntS.f k l0_0 a1).bind fun bt102 => (some (bt102.1, bt102.2))
set_option maxHeartbeats 8000000 in
set_option maxRecDepth 100000 in
theorem laws_markRow.calls (k : Nat) (P0_0_ : Nat → Prop) (u9000_ : Value) (l0_0 : List Int) (a1 : Int) (r1 : Int) (r2 : List Int) (w0 w : World) (hB : Below w0.heap.size w0 w) (ho0_0 : Kd.R (Kd.int .i64) 3 w w0.heap.size P0_0_ u9000_ l0_0) (h : laws_markRow.f k l0_0 a1 = some (r1, r2)) :
  Calls Try.prog 16 #[.agg #[u9000_], .int .i64 a1] w fun e w' => e = .returned (.int .i64 r1) ∧ Kd.R (Kd.int .i64) 3 w' w0.heap.size (fun k_ => (P0_0_ k_ ∨ w.heap.size ≤ k_)) u9000_ r2 ∧ Below w0.heap.size w0 w' ∧ Kept w w' (fun k_ => P0_0_ k_) := by
 have hu28 := Try.underlying28
 have HO0_0 := Aside0.mk (show Kd.R (Kd.int .i64) 3 w w0.heap.size (fun k_ => (P0_0_ k_ ∨ w.heap.size ≤ k_)) u9000_ l0_0 from Kd.R_mono ho0_0 (fun k_ hk => (.inl hk)))
 have HK := Aside0.mk (Kept.refl w (fun k_ => P0_0_ k_))
 have HW0 := Aside0.mk hB.size
 have HB := Aside0.mk hB
 clear hB
 have H : ((laws_markIntS.f k l0_0 a1).bind fun bt102 => (some (bt102.1, bt102.2))) = some (r1, r2) := h
 clear h
 replace H := Option.bind_eq_some_iff.mp H
 obtain ⟨⟨t102, t103⟩, A30, H⟩ := H
 replace H : (some (t102, t103)) = some (r1, r2) := H
 have A3 := Aside0.mk A30
 clear A30
 simp only [Option.some.injEq, Prod.mk.injEq] at H
 obtain ⟨rfl, rfl⟩ := H
 obtain ⟨Ao4, co4, eo4⟩ := Kd.R_slice HO0_0.out
 subst eo4
 go_enter Try.func16, Try.ntmps16
 go_wp2_with (first | ((with_reducible refine gate_dst (N := 2) rfl ?_); refine box_event ?hg (N := 2) ?hd (cs := #[.slice Ao4 l0_0.length co4]) (t := 28) ?hr ?_; (case hd => rfl); (case hg => rfl); (case hr => first | (go_simp; done) | (go_simp; rfl)); intro gb101 hg w5 hbox hb; have n0_ := Aside0.mk (Kd.R_below (by (with_reducible repeat (first | apply Kd.R_alloc | apply Kd.R_drewN | apply Kd.R_drew)); exact HO0_0.out) hb); have n1_ := Aside0.mk (Kept.below (S := (fun k_ => P0_0_ k_)) (by repeat (first | (with_reducible first | exact HK.out | apply Kept.alloc | apply Kept.drewN | apply Kept.drew) | exact HK.out)) hb); have n2_ := Aside0.mk (below_step (by repeat (first | (with_reducible first | exact HB.out | apply below_alloc | apply pw_below_drewN | apply below_drew1) | exact HB.out)) hb); have n3_ := Aside0.mk (hbox); have n4_ := Aside0.mk ((by rw [hg]; exact (by first | exact HK.out.1 | exact (show Kept w _ (fun k_ => P0_0_ k_) from by repeat (first | (with_reducible first | exact HK.out | apply Kept.alloc | apply Kept.drewN | apply Kept.drew) | exact HK.out)).1) : w.heap.size ≤ gb101)); have n5_ := Aside0.mk ((by rw [hg]; exact (below_size (by repeat (first | (with_reducible first | exact HB.out | apply below_alloc | apply pw_below_drewN | apply below_drew1) | exact HB.out))) : w0.heap.size ≤ gb101)); clear HO0_0; clear HK; clear HB; have HO0_0 := n0_; have HK := n1_; have HB := n2_; have BK101 := n3_; have GW101 := n4_; have GE101 := n5_; clear n0_ n1_ n2_ n3_ n4_ n5_; clear hb hbox hg; have hcz6_0 : w5.cell? ⟨gb101, 0, none⟩ = some (.slice Ao4 l0_0.length co4) := (blk_cell BK101.out 0).trans rfl; have hfz6_0 := blk_frozen BK101.out 0) | ((with_reducible refine gate_callee (f := 50) rfl ?_); refine goesL_ (some 8) rfl rfl Try.func50 (by kernel_rfl) rfl #[.slice Ao4 l0_0.length co4, .int .i64 a1] rfl (by (try simp only [List.map_toArray, List.map_cons, List.map_nil]); first | done | rfl | (simp only [List.length_drop, List.length_take]; rfl)) ?_; (with_reducible refine (laws_markIntS.calls k (fun k_ => some k_ = (.slice Ao4 l0_0.length co4 : Value).ownBlock) (.slice Ao4 l0_0.length co4) l0_0 a1 t102 t103 w0 _ ?side1 ?side2 A3.out).mono ?_); (case side1 => repeat (first | (with_reducible first | exact HB.out | apply below_alloc | apply pw_below_drewN | apply below_drew1 | refine below_set ?_ GE101.out) | exact HB.out)); (case side2 => exact Kd.R_tight rfl HO0_0.out); rintro e w7 ⟨rfl, hy0, hb, hkp⟩; refine ⟨_, rfl, ?_⟩; have n0_ := Aside0.mk (Kd.R_reok rfl hy0 (fun k_ e_ => HO0_0.out.1 k_ e_)); have n1_ := Aside0.mk (blk_kept (by (with_reducible repeat (first | refine blk_drewN ?_ _ | refine blk_drew ?_ | refine blk_alloc ?_ _)); exact BK101.out) hkp (fun hs_ => (fun e_ => (Kd.R_ne HO0_0.out BK101.out (by decide)) e_) hs_)); have n2_ := Aside0.mk (Kept.then_ (S := (fun k_ => P0_0_ k_)) (by repeat (first | (with_reducible first | exact HK.out | apply Kept.alloc | apply Kept.drewN | apply Kept.drew | refine Kept.setCell ?_ (.inr GW101.out) _) | exact HK.out)) hkp (fun k_ hs_ => (fun e_ => (HO0_0.out.1 k_ e_.symm)) hs_)); have n3_ := Aside0.mk (hb); clear HO0_0; clear BK101; clear HK; clear HB; have HO0_0 := n0_; have BK101 := n1_; have HK := n2_; have HB := n3_; clear n0_ n1_ n2_ n3_; (try clear hb); (try clear hkp); (try clear hy0)))
 go_ret
 exact ⟨by first | rfl | (simp [errW_none, errW_some] <;> rfl) | (simp [*, errW_none, errW_some] <;> rfl), by (with_reducible repeat (first | apply Kd.R_alloc | apply Kd.R_drewN | apply Kd.R_drew)); exact HO0_0.out, by repeat (first | (with_reducible first | exact HB.out | apply below_alloc | apply pw_below_drewN | apply below_drew1 | refine below_set ?_ GE101.out) | exact HB.out), by repeat (first | (with_reducible first | exact HK.out | apply Kept.alloc | apply Kept.drewN | apply Kept.drew | refine Kept.setCell ?_ (.inr GW101.out) _) | exact HK.out)⟩

end Go.Proofs.Ytbnmkikifjidjaa.Q
end
section
/- Contracts of a function, printed for this claim by a program of ours over the kit's print. -/
namespace Go.Proofs.Ytbnmkikifjidjaa.Q
open Go.RowKit Go.Proofs.YtbnmkikifjidjaaW.PrintWords Go.Proofs.YtbnmkikifjidjaaW.PrintLast Go.Proofs.YtbnmkikifjidjaaW.PrintMore
attribute [local go_sem] max2_int min2_int max_two min_two max_three min_three max_four min_four   -- for this text's walks alone
set_option linter.unusedVariables false
set_option linter.unusedSimpArgs false

/-! ### laws_markGroup: function 17 -/
def laws_markGroup.f (k : Nat) (l0_0 : List Int) (a0_1 : Int) (a0_2 : Int) (a1 : Int) : Option (Int × List Int) := (laws_markRow.f k l0_0 a1).bind fun bt102 => (some (bt102.1, bt102.2))
set_option maxHeartbeats 8000000 in
set_option maxRecDepth 100000 in
theorem laws_markGroup.calls (k : Nat) (P0_0_ : Nat → Prop) (u9000_ : Value) (l0_0 : List Int) (a0_1 : Int) (a0_2 : Int) (a1 : Int) (r1 : Int) (r2 : List Int) (w0 w : World) (hB : Below w0.heap.size w0 w) (ho0_0 : Kd.R (Kd.int .i64) 3 w w0.heap.size P0_0_ u9000_ l0_0) (h : laws_markGroup.f k l0_0 a0_1 a0_2 a1 = some (r1, r2)) :
  Calls Try.prog 17 #[.agg #[u9000_, .int .i64 a0_1, .int .i64 a0_2], .int .i64 a1] w fun e w' => e = .returned (.int .i64 r1) ∧ Kd.R (Kd.int .i64) 3 w' w0.heap.size (fun k_ => (P0_0_ k_ ∨ w.heap.size ≤ k_)) u9000_ r2 ∧ Below w0.heap.size w0 w' ∧ Kept w w' (fun k_ => P0_0_ k_) := by
 have hu30 := Try.underlying30
 have hu28 := Try.underlying28
 have HO0_0 := Aside0.mk (show Kd.R (Kd.int .i64) 3 w w0.heap.size (fun k_ => (P0_0_ k_ ∨ w.heap.size ≤ k_)) u9000_ l0_0 from Kd.R_mono ho0_0 (fun k_ hk => (.inl hk)))
 have HK := Aside0.mk (Kept.refl w (fun k_ => P0_0_ k_))
 have HW0 := Aside0.mk hB.size
 have HB := Aside0.mk hB
 clear hB
 have H : ((laws_markRow.f k l0_0 a1).bind fun bt102 => (some (bt102.1, bt102.2))) = some (r1, r2) := h
 clear h
 replace H := Option.bind_eq_some_iff.mp H
 obtain ⟨⟨t102, t103⟩, A30, H⟩ := H
 replace H : (some (t102, t103)) = some (r1, r2) := H
 have A3 := Aside0.mk A30
 clear A30
 simp only [Option.some.injEq, Prod.mk.injEq] at H
 obtain ⟨rfl, rfl⟩ := H
 obtain ⟨Ao4, co4, eo4⟩ := Kd.R_slice HO0_0.out
 subst eo4
 go_enter Try.func17, Try.ntmps17
 go_wp2_with (first | ((with_reducible refine gate_dst (N := 2) rfl ?_); refine box_event ?hg (N := 2) ?hd (cs := #[.slice Ao4 l0_0.length co4, .int .i64 a0_1, .int .i64 a0_2]) (t := 30) ?hr ?_; (case hd => rfl); (case hg => rfl); (case hr => first | (go_simp; done) | (go_simp; rfl)); intro gb101 hg w5 hbox hb; have n0_ := Aside0.mk (Kd.R_below (by (with_reducible repeat (first | apply Kd.R_alloc | apply Kd.R_drewN | apply Kd.R_drew)); exact HO0_0.out) hb); have n1_ := Aside0.mk (Kept.below (S := (fun k_ => P0_0_ k_)) (by repeat (first | (with_reducible first | exact HK.out | apply Kept.alloc | apply Kept.drewN | apply Kept.drew) | exact HK.out)) hb); have n2_ := Aside0.mk (below_step (by repeat (first | (with_reducible first | exact HB.out | apply below_alloc | apply pw_below_drewN | apply below_drew1) | exact HB.out)) hb); have n3_ := Aside0.mk (hbox); have n4_ := Aside0.mk ((by rw [hg]; exact (by first | exact HK.out.1 | exact (show Kept w _ (fun k_ => P0_0_ k_) from by repeat (first | (with_reducible first | exact HK.out | apply Kept.alloc | apply Kept.drewN | apply Kept.drew) | exact HK.out)).1) : w.heap.size ≤ gb101)); have n5_ := Aside0.mk ((by rw [hg]; exact (below_size (by repeat (first | (with_reducible first | exact HB.out | apply below_alloc | apply pw_below_drewN | apply below_drew1) | exact HB.out))) : w0.heap.size ≤ gb101)); clear HO0_0; clear HK; clear HB; have HO0_0 := n0_; have HK := n1_; have HB := n2_; have BK101 := n3_; have GW101 := n4_; have GE101 := n5_; clear n0_ n1_ n2_ n3_ n4_ n5_; clear hb hbox hg; have hcz6_0 : w5.cell? ⟨gb101, 0, none⟩ = some (.slice Ao4 l0_0.length co4) := (blk_cell BK101.out 0).trans rfl; have hcz6_1 : w5.cell? ⟨gb101, 1, none⟩ = some (.int .i64 a0_1) := (blk_cell BK101.out 1).trans rfl; have hcz6_2 : w5.cell? ⟨gb101, 2, none⟩ = some (.int .i64 a0_2) := (blk_cell BK101.out 2).trans rfl; have hfz6_0 := blk_frozen BK101.out 0; have hfz6_1 := blk_frozen BK101.out 1; have hfz6_2 := blk_frozen BK101.out 2) | ((with_reducible refine gate_callee (f := 16) rfl ?_); refine goesL_ (some 8) rfl rfl Try.func16 (by kernel_rfl) rfl #[.agg #[.slice Ao4 l0_0.length co4], .int .i64 a1] rfl (by (try simp only [List.map_toArray, List.map_cons, List.map_nil]); first | done | rfl | (simp only [List.length_drop, List.length_take]; rfl)) ?_; (with_reducible refine (laws_markRow.calls k (fun k_ => some k_ = (.slice Ao4 l0_0.length co4 : Value).ownBlock) (.slice Ao4 l0_0.length co4) l0_0 a1 t102 t103 w0 _ ?side1 ?side2 A3.out).mono ?_); (case side1 => repeat (first | (with_reducible first | exact HB.out | apply below_alloc | apply pw_below_drewN | apply below_drew1 | refine below_set ?_ GE101.out) | exact HB.out)); (case side2 => exact Kd.R_tight rfl HO0_0.out); rintro e w7 ⟨rfl, hy0, hb, hkp⟩; refine ⟨_, rfl, ?_⟩; have n0_ := Aside0.mk (Kd.R_reok rfl hy0 (fun k_ e_ => HO0_0.out.1 k_ e_)); have n1_ := Aside0.mk (blk_kept (by (with_reducible repeat (first | refine blk_drewN ?_ _ | refine blk_drew ?_ | refine blk_alloc ?_ _)); exact BK101.out) hkp (fun hs_ => (fun e_ => (Kd.R_ne HO0_0.out BK101.out (by decide)) e_) hs_)); have n2_ := Aside0.mk (Kept.then_ (S := (fun k_ => P0_0_ k_)) (by repeat (first | (with_reducible first | exact HK.out | apply Kept.alloc | apply Kept.drewN | apply Kept.drew | refine Kept.setCell ?_ (.inr GW101.out) _) | exact HK.out)) hkp (fun k_ hs_ => (fun e_ => (HO0_0.out.1 k_ e_.symm)) hs_)); have n3_ := Aside0.mk (hb); clear HO0_0; clear BK101; clear HK; clear HB; have HO0_0 := n0_; have BK101 := n1_; have HK := n2_; have HB := n3_; clear n0_ n1_ n2_ n3_; (try clear hb); (try clear hkp); (try clear hy0)))
 go_ret
 exact ⟨by first | rfl | (simp [errW_none, errW_some] <;> rfl) | (simp [*, errW_none, errW_some] <;> rfl), by (with_reducible repeat (first | apply Kd.R_alloc | apply Kd.R_drewN | apply Kd.R_drew)); exact HO0_0.out, by repeat (first | (with_reducible first | exact HB.out | apply below_alloc | apply pw_below_drewN | apply below_drew1 | refine below_set ?_ GE101.out) | exact HB.out), by repeat (first | (with_reducible first | exact HK.out | apply Kept.alloc | apply Kept.drewN | apply Kept.drew | refine Kept.setCell ?_ (.inr GW101.out) _) | exact HK.out)⟩

end Go.Proofs.Ytbnmkikifjidjaa.Q
end
section
/- Contracts of a function, printed for this claim by a program of ours over the kit's print. -/
namespace Go.Proofs.Ytbnmkikifjidjaa.Q
open Go.RowKit Go.Proofs.YtbnmkikifjidjaaW.PrintWords Go.Proofs.YtbnmkikifjidjaaW.PrintLast Go.Proofs.YtbnmkikifjidjaaW.PrintMore
attribute [local go_sem] max2_int min2_int max_two min_two max_three min_three max_four min_four   -- for this text's walks alone
set_option linter.unusedVariables false
set_option linter.unusedSimpArgs false

/-! ### laws_heldRow: function 51 -/
def laws_heldRow.f (k : Nat) (l0_0 : List Int) (a1 : Int) : Option (Int) := (laws_heldIntS.f k l0_0 a1).bind fun t102 => (if t102 < 0 then (some (-1)) else (some t102))
set_option maxHeartbeats 8000000 in
set_option maxRecDepth 100000 in
theorem laws_heldRow.calls (k : Nat) (A0_0 : Option Addr) (c0_0 : Nat) (l0_0 : List Int) (a1 : Int) (r : Int) (w : World) (hr0_0 : Kd.C (Kd.int .i64) w A0_0 l0_0.length l0_0) (hc0_0 : l0_0.length ≤ c0_0) (h : laws_heldRow.f k l0_0 a1 = some r) :
  Calls Try.prog 51 #[.agg #[.slice A0_0 l0_0.length c0_0], .int .i64 a1] w fun e w' => e = .returned (.int .i64 r) ∧ Below w.heap.size w w' := by
 have hu28 := Try.underlying28
 have HR0_0 := Aside0.mk hr0_0
 have HC0_0 := Aside0.mk hc0_0
 clear hr0_0 hc0_0
 have HB := Aside0.mk (Below.refl w.heap.size w)
 have H : ((laws_heldIntS.f k l0_0 a1).bind fun t102 => (if t102 < 0 then (some (-1)) else (some t102))) = some r := h
 clear h
 replace H := Option.bind_eq_some_iff.mp H
 obtain ⟨t102, A30, H⟩ := H
 replace H : (if t102 < 0 then (some (-1)) else (some t102)) = some r := H
 have A3 := Aside0.mk A30
 clear A30
 by_cases c4 : t102 < 0
 ·rw [if_pos c4] at H
  have c4b0 : decide (t102 < 0) = true := decide_eq_true c4
  clear c4
  obtain rfl := Option.some.inj H
  go_enter Try.func51, Try.ntmps51
  go_wp2_with (first | ((with_reducible refine gate_dst (N := 2) rfl ?_); refine box_event ?hg (N := 2) ?hd (cs := #[.slice A0_0 l0_0.length c0_0]) (t := 28) ?hr ?_; (case hd => rfl); (case hg => rfl); (case hr => first | (go_simp; done) | (go_simp; rfl)); intro gb101 hg w5 hbox hb; have n0_ := Aside0.mk (below_step (by repeat (first | (with_reducible first | exact HB.out | apply below_alloc | apply pw_below_drewN | apply below_drew1) | exact HB.out)) hb); have n1_ := Aside0.mk (hbox); have n2_ := Aside0.mk ((by rw [hg]; exact (below_size (by repeat (first | (with_reducible first | exact HB.out | apply below_alloc | apply pw_below_drewN | apply below_drew1) | exact HB.out))) : w.heap.size ≤ gb101)); have n3_ := Aside0.mk ((by rw [hg]; exact (below_size (by repeat (first | (with_reducible first | exact HB.out | apply below_alloc | apply pw_below_drewN | apply below_drew1) | exact HB.out))) : w.heap.size ≤ gb101)); clear HB; have HB := n0_; have BK101 := n1_; have GW101 := n2_; have GE101 := n3_; clear n0_ n1_ n2_ n3_; clear hb hbox hg; have hcz6_0 : w5.cell? ⟨gb101, 0, none⟩ = some (.slice A0_0 l0_0.length c0_0) := (blk_cell BK101.out 0).trans rfl; have hfz6_0 := blk_frozen BK101.out 0) | ((with_reducible refine gate_callee (f := 80) rfl ?_); refine goesL_ (some 8) rfl rfl Try.func80 (by kernel_rfl) rfl #[.slice A0_0 l0_0.length c0_0, .int .i64 a1] rfl (by (try simp only [List.map_toArray, List.map_cons, List.map_nil]); first | done | rfl | (simp only [List.length_drop, List.length_take]; rfl)) ?_; (with_reducible refine (laws_heldIntS.calls k _ _ l0_0 a1 t102 _ ?side1 ?side2 A3.out).mono ?_); (case side1 => repeat (first | exact (Kd.C_below HR0_0.out HB.out) | (with_reducible refine Kd.C_alloc ?_ _) | (with_reducible refine Kd.C_drewN ?_ _) | (with_reducible refine Kd.C_drew ?_))); (case side2 => exact HC0_0.out); rintro e w' ⟨rfl, ⟨nd, rfl⟩⟩; refine ⟨_, rfl, ?_⟩))
  go_ret
  exact ⟨by first | rfl | (simp [errW_none, errW_some] <;> rfl) | (simp [*, errW_none, errW_some] <;> rfl), by repeat (first | (with_reducible first | exact HB.out | apply below_alloc | apply pw_below_drewN | apply below_drew1 | refine below_set ?_ GE101.out) | exact HB.out)⟩
 ·rw [if_neg c4] at H
  have c4b0 : decide (t102 < 0) = false := decide_eq_false c4
  clear c4
  obtain rfl := Option.some.inj H
  go_enter Try.func51, Try.ntmps51
  go_wp2_with (first | ((with_reducible refine gate_dst (N := 2) rfl ?_); refine box_event ?hg (N := 2) ?hd (cs := #[.slice A0_0 l0_0.length c0_0]) (t := 28) ?hr ?_; (case hd => rfl); (case hg => rfl); (case hr => first | (go_simp; done) | (go_simp; rfl)); intro gb101 hg w7 hbox hb; have n0_ := Aside0.mk (below_step (by repeat (first | (with_reducible first | exact HB.out | apply below_alloc | apply pw_below_drewN | apply below_drew1) | exact HB.out)) hb); have n1_ := Aside0.mk (hbox); have n2_ := Aside0.mk ((by rw [hg]; exact (below_size (by repeat (first | (with_reducible first | exact HB.out | apply below_alloc | apply pw_below_drewN | apply below_drew1) | exact HB.out))) : w.heap.size ≤ gb101)); have n3_ := Aside0.mk ((by rw [hg]; exact (below_size (by repeat (first | (with_reducible first | exact HB.out | apply below_alloc | apply pw_below_drewN | apply below_drew1) | exact HB.out))) : w.heap.size ≤ gb101)); clear HB; have HB := n0_; have BK101 := n1_; have GW101 := n2_; have GE101 := n3_; clear n0_ n1_ n2_ n3_; clear hb hbox hg; have hcz8_0 : w7.cell? ⟨gb101, 0, none⟩ = some (.slice A0_0 l0_0.length c0_0) := (blk_cell BK101.out 0).trans rfl; have hfz8_0 := blk_frozen BK101.out 0) | ((with_reducible refine gate_callee (f := 80) rfl ?_); refine goesL_ (some 8) rfl rfl Try.func80 (by kernel_rfl) rfl #[.slice A0_0 l0_0.length c0_0, .int .i64 a1] rfl (by (try simp only [List.map_toArray, List.map_cons, List.map_nil]); first | done | rfl | (simp only [List.length_drop, List.length_take]; rfl)) ?_; (with_reducible refine (laws_heldIntS.calls k _ _ l0_0 a1 t102 _ ?side1 ?side2 A3.out).mono ?_); (case side1 => repeat (first | exact (Kd.C_below HR0_0.out HB.out) | (with_reducible refine Kd.C_alloc ?_ _) | (with_reducible refine Kd.C_drewN ?_ _) | (with_reducible refine Kd.C_drew ?_))); (case side2 => exact HC0_0.out); rintro e w' ⟨rfl, ⟨nd, rfl⟩⟩; refine ⟨_, rfl, ?_⟩))
  go_ret
  exact ⟨by first | rfl | (simp [errW_none, errW_some] <;> rfl) | (simp [*, errW_none, errW_some] <;> rfl), by repeat (first | (with_reducible first | exact HB.out | apply below_alloc | apply pw_below_drewN | apply below_drew1 | refine below_set ?_ GE101.out) | exact HB.out)⟩

end Go.Proofs.Ytbnmkikifjidjaa.Q
end
section
/- Contracts of a function, printed for this claim by a program of ours over the kit's print. -/
namespace Go.Proofs.Ytbnmkikifjidjaa.Q
open Go.RowKit Go.Proofs.YtbnmkikifjidjaaW.PrintWords Go.Proofs.YtbnmkikifjidjaaW.PrintLast Go.Proofs.YtbnmkikifjidjaaW.PrintMore
attribute [local go_sem] max2_int min2_int max_two min_two max_three min_three max_four min_four   -- for this text's walks alone
set_option linter.unusedVariables false
set_option linter.unusedSimpArgs false

/-! ### laws_heldGroup: function 18 -/
def laws_heldGroup.f (k : Nat) (l0_0 : List Int) (a0_1 : Int) (a0_2 : Int) (a1 : Int) : Option (Int) := (laws_heldRow.f k l0_0 a1).bind fun t102 => (if t102 < 0 then (some (-1)) else (some t102))
set_option maxHeartbeats 8000000 in
set_option maxRecDepth 100000 in
theorem laws_heldGroup.calls (k : Nat) (A0_0 : Option Addr) (c0_0 : Nat) (l0_0 : List Int) (a0_1 : Int) (a0_2 : Int) (a1 : Int) (r : Int) (w : World) (hr0_0 : Kd.C (Kd.int .i64) w A0_0 l0_0.length l0_0) (hc0_0 : l0_0.length ≤ c0_0) (h : laws_heldGroup.f k l0_0 a0_1 a0_2 a1 = some r) :
  Calls Try.prog 18 #[.agg #[.slice A0_0 l0_0.length c0_0, .int .i64 a0_1, .int .i64 a0_2], .int .i64 a1] w fun e w' => e = .returned (.int .i64 r) ∧ Below w.heap.size w w' := by
 have hu30 := Try.underlying30
 have hu28 := Try.underlying28
 have HR0_0 := Aside0.mk hr0_0
 have HC0_0 := Aside0.mk hc0_0
 clear hr0_0 hc0_0
 have HB := Aside0.mk (Below.refl w.heap.size w)
 have H : ((laws_heldRow.f k l0_0 a1).bind fun t102 => (if t102 < 0 then (some (-1)) else (some t102))) = some r := h
 clear h
 replace H := Option.bind_eq_some_iff.mp H
 obtain ⟨t102, A30, H⟩ := H
 replace H : (if t102 < 0 then (some (-1)) else (some t102)) = some r := H
 have A3 := Aside0.mk A30
 clear A30
 by_cases c4 : t102 < 0
 ·rw [if_pos c4] at H
  have c4b0 : decide (t102 < 0) = true := decide_eq_true c4
  clear c4
  obtain rfl := Option.some.inj H
  go_enter Try.func18, Try.ntmps18
  go_wp2_with (first | ((with_reducible refine gate_dst (N := 2) rfl ?_); refine box_event ?hg (N := 2) ?hd (cs := #[.slice A0_0 l0_0.length c0_0, .int .i64 a0_1, .int .i64 a0_2]) (t := 30) ?hr ?_; (case hd => rfl); (case hg => rfl); (case hr => first | (go_simp; done) | (go_simp; rfl)); intro gb101 hg w5 hbox hb; have n0_ := Aside0.mk (below_step (by repeat (first | (with_reducible first | exact HB.out | apply below_alloc | apply pw_below_drewN | apply below_drew1) | exact HB.out)) hb); have n1_ := Aside0.mk (hbox); have n2_ := Aside0.mk ((by rw [hg]; exact (below_size (by repeat (first | (with_reducible first | exact HB.out | apply below_alloc | apply pw_below_drewN | apply below_drew1) | exact HB.out))) : w.heap.size ≤ gb101)); have n3_ := Aside0.mk ((by rw [hg]; exact (below_size (by repeat (first | (with_reducible first | exact HB.out | apply below_alloc | apply pw_below_drewN | apply below_drew1) | exact HB.out))) : w.heap.size ≤ gb101)); clear HB; have HB := n0_; have BK101 := n1_; have GW101 := n2_; have GE101 := n3_; clear n0_ n1_ n2_ n3_; clear hb hbox hg; have hcz6_0 : w5.cell? ⟨gb101, 0, none⟩ = some (.slice A0_0 l0_0.length c0_0) := (blk_cell BK101.out 0).trans rfl; have hcz6_1 : w5.cell? ⟨gb101, 1, none⟩ = some (.int .i64 a0_1) := (blk_cell BK101.out 1).trans rfl; have hcz6_2 : w5.cell? ⟨gb101, 2, none⟩ = some (.int .i64 a0_2) := (blk_cell BK101.out 2).trans rfl; have hfz6_0 := blk_frozen BK101.out 0; have hfz6_1 := blk_frozen BK101.out 1; have hfz6_2 := blk_frozen BK101.out 2) | ((with_reducible refine gate_callee (f := 51) rfl ?_); refine goesL_ (some 8) rfl rfl Try.func51 (by kernel_rfl) rfl #[.agg #[.slice A0_0 l0_0.length c0_0], .int .i64 a1] rfl (by (try simp only [List.map_toArray, List.map_cons, List.map_nil]); first | done | rfl | (simp only [List.length_drop, List.length_take]; rfl)) ?_; (with_reducible refine (laws_heldRow.calls k _ _ l0_0 a1 t102 _ ?side1 ?side2 A3.out).mono ?_); (case side1 => repeat (first | exact (Kd.C_below HR0_0.out HB.out) | (with_reducible refine Kd.C_alloc ?_ _) | (with_reducible refine Kd.C_drewN ?_ _) | (with_reducible refine Kd.C_drew ?_))); (case side2 => exact HC0_0.out); rintro e w7 ⟨rfl, hb⟩; refine ⟨_, rfl, ?_⟩; have n0_ := Aside0.mk (blk_below (g := gb101) (o := .cells #[.slice A0_0 l0_0.length c0_0, .int .i64 a0_1, .int .i64 a0_2] 30 (0, 0)) (by (with_reducible repeat (first | refine blk_drewN ?_ _ | refine blk_drew ?_ | refine blk_alloc ?_ _)); exact BK101.out) hb); have n1_ := Aside0.mk (below_step (by repeat (first | (with_reducible first | exact HB.out | apply below_alloc | apply pw_below_drewN | apply below_drew1 | refine below_set ?_ GE101.out) | exact HB.out)) hb); clear BK101; clear HB; have BK101 := n0_; have HB := n1_; clear n0_ n1_; (try clear hb); (try clear hb2); (try clear hk); (try clear hi)))
  go_ret
  exact ⟨by first | rfl | (simp [errW_none, errW_some] <;> rfl) | (simp [*, errW_none, errW_some] <;> rfl), by repeat (first | (with_reducible first | exact HB.out | apply below_alloc | apply pw_below_drewN | apply below_drew1 | refine below_set ?_ GE101.out) | exact HB.out)⟩
 ·rw [if_neg c4] at H
  have c4b0 : decide (t102 < 0) = false := decide_eq_false c4
  clear c4
  obtain rfl := Option.some.inj H
  go_enter Try.func18, Try.ntmps18
  go_wp2_with (first | ((with_reducible refine gate_dst (N := 2) rfl ?_); refine box_event ?hg (N := 2) ?hd (cs := #[.slice A0_0 l0_0.length c0_0, .int .i64 a0_1, .int .i64 a0_2]) (t := 30) ?hr ?_; (case hd => rfl); (case hg => rfl); (case hr => first | (go_simp; done) | (go_simp; rfl)); intro gb101 hg w8 hbox hb; have n0_ := Aside0.mk (below_step (by repeat (first | (with_reducible first | exact HB.out | apply below_alloc | apply pw_below_drewN | apply below_drew1) | exact HB.out)) hb); have n1_ := Aside0.mk (hbox); have n2_ := Aside0.mk ((by rw [hg]; exact (below_size (by repeat (first | (with_reducible first | exact HB.out | apply below_alloc | apply pw_below_drewN | apply below_drew1) | exact HB.out))) : w.heap.size ≤ gb101)); have n3_ := Aside0.mk ((by rw [hg]; exact (below_size (by repeat (first | (with_reducible first | exact HB.out | apply below_alloc | apply pw_below_drewN | apply below_drew1) | exact HB.out))) : w.heap.size ≤ gb101)); clear HB; have HB := n0_; have BK101 := n1_; have GW101 := n2_; have GE101 := n3_; clear n0_ n1_ n2_ n3_; clear hb hbox hg; have hcz9_0 : w8.cell? ⟨gb101, 0, none⟩ = some (.slice A0_0 l0_0.length c0_0) := (blk_cell BK101.out 0).trans rfl; have hcz9_1 : w8.cell? ⟨gb101, 1, none⟩ = some (.int .i64 a0_1) := (blk_cell BK101.out 1).trans rfl; have hcz9_2 : w8.cell? ⟨gb101, 2, none⟩ = some (.int .i64 a0_2) := (blk_cell BK101.out 2).trans rfl; have hfz9_0 := blk_frozen BK101.out 0; have hfz9_1 := blk_frozen BK101.out 1; have hfz9_2 := blk_frozen BK101.out 2) | ((with_reducible refine gate_callee (f := 51) rfl ?_); refine goesL_ (some 8) rfl rfl Try.func51 (by kernel_rfl) rfl #[.agg #[.slice A0_0 l0_0.length c0_0], .int .i64 a1] rfl (by (try simp only [List.map_toArray, List.map_cons, List.map_nil]); first | done | rfl | (simp only [List.length_drop, List.length_take]; rfl)) ?_; (with_reducible refine (laws_heldRow.calls k _ _ l0_0 a1 t102 _ ?side1 ?side2 A3.out).mono ?_); (case side1 => repeat (first | exact (Kd.C_below HR0_0.out HB.out) | (with_reducible refine Kd.C_alloc ?_ _) | (with_reducible refine Kd.C_drewN ?_ _) | (with_reducible refine Kd.C_drew ?_))); (case side2 => exact HC0_0.out); rintro e w10 ⟨rfl, hb⟩; refine ⟨_, rfl, ?_⟩; have n0_ := Aside0.mk (blk_below (g := gb101) (o := .cells #[.slice A0_0 l0_0.length c0_0, .int .i64 a0_1, .int .i64 a0_2] 30 (0, 0)) (by (with_reducible repeat (first | refine blk_drewN ?_ _ | refine blk_drew ?_ | refine blk_alloc ?_ _)); exact BK101.out) hb); have n1_ := Aside0.mk (below_step (by repeat (first | (with_reducible first | exact HB.out | apply below_alloc | apply pw_below_drewN | apply below_drew1 | refine below_set ?_ GE101.out) | exact HB.out)) hb); clear BK101; clear HB; have BK101 := n0_; have HB := n1_; clear n0_ n1_; (try clear hb); (try clear hb2); (try clear hk); (try clear hi)))
  go_ret
  exact ⟨by first | rfl | (simp [errW_none, errW_some] <;> rfl) | (simp [*, errW_none, errW_some] <;> rfl), by repeat (first | (with_reducible first | exact HB.out | apply below_alloc | apply pw_below_drewN | apply below_drew1 | refine below_set ?_ GE101.out) | exact HB.out)⟩

end Go.Proofs.Ytbnmkikifjidjaa.Q
end
section
/- The law's own helpers over groups, as plain functions of lists. -/
namespace Go.Proofs.Ytbnmkikifjidjaa.Q
open Go.RowKit Go.Proofs.YtbnmkikifjidjaaW.PrintWords Go.Proofs.YtbnmkikifjidjaaW.PrintLast
set_option linter.unusedVariables false
set_option linter.unusedSimpArgs false

/-! ### sizes -/
theorem szInt_f (l : List Int) (a : Int) (h0 : 0 ≤ a) (h1 : a ≤ 1048576) (hl : l.length ≤ 9223372036854775807) : ∃ r, laws_szIntS.f l a = some r ∧ (0 ≤ r → r = a - l.length) ∧ r ≤ 1048576 ∧ -1 ≤ r := by
 unfold laws_szIntS.f
 rw [wrap_id _ (by omega) (by omega)]
 split
 ·exact ⟨_, rfl, by omega, by omega, by omega⟩
 ·exact ⟨_, rfl, by omega, by omega, by omega⟩
theorem szRow_f (l : List Int) (a : Int) (h0 : 0 ≤ a) (h1 : a ≤ 1048576) (hl : l.length ≤ 9223372036854775807) : ∃ r, laws_szRow.f l a = some r ∧ (0 ≤ r → r = a - l.length) ∧ r ≤ 1048576 ∧ -1 ≤ r := by
 obtain ⟨r, hr, h2, h3, h4⟩ := szInt_f l a h0 h1 hl
 unfold laws_szRow.f
 rw [hr]
 simp only [Option.bind_some]
 split
 ·exact ⟨_, rfl, by omega, by omega, by omega⟩
 ·exact ⟨_, rfl, h2, h3, h4⟩
theorem szGroup_f (l : List Int) (x y a : Int) (h0 : 0 ≤ a) (h1 : a ≤ 1048576) (hl : l.length ≤ 9223372036854775807) : ∃ r, laws_szGroup.f l x y a = some r ∧ (0 ≤ r → r = a - l.length) ∧ r ≤ 1048576 ∧ -1 ≤ r := by
 obtain ⟨r, hr, h2, h3, h4⟩ := szRow_f l a h0 h1 hl
 unfold laws_szGroup.f
 rw [hr]
 simp only [Option.bind_some]
 split
 ·exact ⟨_, rfl, by omega, by omega, by omega⟩
 ·exact ⟨_, rfl, h2, h3, h4⟩
def klen75 (l : List S75) : Nat := (l.map fun g => g.f0.f0.length).sum
theorem rd75_at (l : List S75) (i : Nat) (h : i < l.length) : rd_T75 l (i : Int) = l[i] := by
 show l.getD i z75 = _
 rw [List.getD_eq_getElem?_getD, List.getElem?_eq_getElem h]; rfl
theorem rd30_at (l : List S30) (i : Nat) (h : i < l.length) : rd_T30 l (i : Int) = l[i] := by
 show l.getD i z30 = _
 rw [List.getD_eq_getElem?_getD, List.getElem?_eq_getElem h]; rfl
theorem szGroupS_l0 (l : List S75) (hb : ∀ x ∈ l, x.f0.f0.length ≤ 9223372036854775807) (hl : l.length ≤ 1048576) (d : Nat) : ∀ (f i : Nat) (a : Int), 0 ≤ a → a ≤ 1048576 → i + d = l.length → d < f → ∃ r, laws_szGroupS.l0 f l a (i : Int) = some r ∧ (0 ≤ r → r = a - klen75 (l.drop i)) ∧ r ≤ 1048576 ∧ -1 ≤ r := by
 induction d with
 | zero =>
  intro f i a h0 h1 hi hf
  obtain ⟨f, rfl⟩ : ∃ m, f = m + 1 := ⟨f - 1, by omega⟩
  simp only [laws_szGroupS.l0]
  rw [if_neg (by omega), List.drop_eq_nil_of_le (by omega)]
  exact ⟨a, rfl, by simp [klen75], by omega, by omega⟩
 | succ d ih =>
  intro f i a h0 h1 hi hf
  obtain ⟨f, rfl⟩ : ∃ m, f = m + 1 := ⟨f - 1, by omega⟩
  have hlt : i < l.length := by omega
  simp only [laws_szGroupS.l0]
  rw [if_pos (by omega), if_pos (by omega), rd75_at l i hlt, wrap_id ((i : Int) + 1) (by omega) (by omega)]
  obtain ⟨r, hr, h2, h3, h4⟩ := szGroup_f l[i].f0.f0 l[i].f1 l[i].f2 a h0 h1 (hb _ (List.getElem_mem hlt))
  rw [hr, drop_at l i hlt]
  simp only [Option.bind_some]
  split
  ·exact ⟨_, rfl, by omega, by omega, by omega⟩
  ·obtain ⟨r2, hr2, h5, h6, h7⟩ := ih f (i + 1) r (by omega) (by omega) (by omega) (by omega)
   rw [show ((i + 1 : Nat) : Int) = (i : Int) + 1 from by omega] at hr2
   refine ⟨r2, hr2, fun h => ?_, h6, h7⟩
   have e1 := h5 h
   have e2 := h2 (by omega)
   have e3 : klen75 (l[i] :: l.drop (i + 1)) = l[i].f0.f0.length + klen75 (l.drop (i + 1)) := by simp only [klen75, List.map_cons, List.sum_cons]
   rw [e3]
   omega
theorem szGroupS_f (l : List S75) (hb : ∀ x ∈ l, x.f0.f0.length ≤ 9223372036854775807) (hl : l.length ≤ 9223372036854775807) : ∃ r, laws_szGroupS.f (l.length + 1) l 1048576 = some r ∧ (0 ≤ r → l.length + klen75 l ≤ 1048576) ∧ r ≤ 1048576 ∧ -1 ≤ r := by
 unfold laws_szGroupS.f
 rw [wrap_id _ (by omega) (by omega)]
 by_cases h : (1048576 : Int) - (l.length : Int) < 0
 ·rw [if_pos h]
  exact ⟨_, rfl, by omega, by omega, by omega⟩
 ·rw [if_neg h]
  obtain ⟨r, hr, h2, h3, h4⟩ := szGroupS_l0 l hb (by omega) l.length (l.length + 1) 0 (1048576 - (l.length : Int)) (by omega) (by omega) (by omega) (by omega)
  refine ⟨r, hr, fun h => ?_, h3, h4⟩
  have := h2 h
  rw [List.drop_zero] at this
  omega

/-! ### copies -/
theorem toInt_l0 (l : List Int) (hl : l.length ≤ 1000000000) (d : Nat) : ∀ (f i : Nat) (x : List Int), x.length = l.length → (∀ j, j < i → x[j]? = l[j]?) → i + d = l.length → d < f → laws_toIntS.l0 f l x (i : Int) = some l := by
 induction d with
 | zero =>
  intro f i x hx hj hi hf
  obtain ⟨f, rfl⟩ : ∃ m, f = m + 1 := ⟨f - 1, by omega⟩
  simp only [laws_toIntS.l0]
  rw [if_neg (by omega)]
  congr 1
  apply List.ext_getElem?
  intro j
  by_cases h : j < i
  ·exact hj j h
  ·rw [List.getElem?_eq_none (by omega), List.getElem?_eq_none (by omega)]
 | succ d ih =>
  intro f i x hx hj hi hf
  obtain ⟨f, rfl⟩ : ∃ m, f = m + 1 := ⟨f - 1, by omega⟩
  have hlt : i < l.length := by omega
  simp only [laws_toIntS.l0]
  rw [if_pos (by omega), if_pos (by omega), if_pos (by omega), rd_at l i hlt, wrap_id ((i : Int) + 1) (by omega) (by omega), show (i : Int) + 1 = ((i + 1 : Nat) : Int) from by omega, Int.toNat_natCast]
  refine ih f (i + 1) _ (by rw [List.length_set]; exact hx) (fun j hj2 => ?_) (by omega) (by omega)
  by_cases e : j = i
  ·subst e
   rw [List.getElem?_set_self (by omega), List.getElem?_eq_getElem hlt]
  ·rw [List.getElem?_set_ne (Ne.symm e)]
   exact hj j (by omega)
theorem toInt_f (l : List Int) (hl : l.length ≤ 1000000000) (k : Nat) (hk : l.length < k) : laws_toIntS.f k l = some l := by
 unfold laws_toIntS.f
 rw [if_pos (by omega), if_pos (by omega)]
 exact toInt_l0 l hl l.length k 0 _ (by simp) (by omega) (by omega) hk
theorem toRow_f (l : List Int) (hl : l.length ≤ 1000000000) (k : Nat) (hk : l.length < k) : laws_toRow.f k l = some l := by
 unfold laws_toRow.f
 rw [toInt_f l hl k hk]; rfl
def convG (x : S75) : S30 := ⟨⟨x.f0.f0⟩, x.f1, x.f2⟩
theorem toGroup_f (l : List Int) (a b : Int) (hl : l.length ≤ 1000000000) (k : Nat) (hk : l.length < k) : laws_toGroup.f k l a b = some (l, a, b) := by
 unfold laws_toGroup.f
 rw [toRow_f l hl k hk]; rfl
theorem toGroupS_l0 (l : List S75) (M : Nat) (hM : ∀ x ∈ l, x.f0.f0.length ≤ M) (hM2 : M ≤ 1000000000) (hl : l.length ≤ 1000000000) (d : Nat) : ∀ (f i : Nat) (x : List S30), x.length = l.length → (∀ j, j < i → x[j]? = (l.map convG)[j]?) → i + d = l.length → d + M < f → laws_toGroupS.l0 f l x (i : Int) = some (l.map convG) := by
 induction d with
 | zero =>
  intro f i x hx hj hi hf
  obtain ⟨f, rfl⟩ : ∃ m, f = m + 1 := ⟨f - 1, by omega⟩
  simp only [laws_toGroupS.l0]
  rw [if_neg (by omega)]
  congr 1
  apply List.ext_getElem?
  intro j
  by_cases h : j < i
  ·exact hj j h
  ·rw [List.getElem?_eq_none (by omega), List.getElem?_eq_none (by rw [List.length_map]; omega)]
 | succ d ih =>
  intro f i x hx hj hi hf
  obtain ⟨f, rfl⟩ : ∃ m, f = m + 1 := ⟨f - 1, by omega⟩
  have hlt : i < l.length := by omega
  have hle := hM _ (List.getElem_mem hlt)
  simp only [laws_toGroupS.l0]
  rw [if_pos (by omega), if_pos (by omega), rd75_at l i hlt, toGroup_f _ _ _ (by omega) f (by omega)]
  simp only [Option.bind_some]
  rw [if_pos (by omega), wrap_id ((i : Int) + 1) (by omega) (by omega), show (i : Int) + 1 = ((i + 1 : Nat) : Int) from by omega, Int.toNat_natCast]
  refine ih f (i + 1) _ (by rw [List.length_set]; exact hx) (fun j hj2 => ?_) (by omega) (by omega)
  by_cases e : j = i
  ·subst e
   rw [List.getElem?_set_self (by omega), List.getElem?_map, List.getElem?_eq_getElem hlt]; rfl
  ·rw [List.getElem?_set_ne (Ne.symm e)]
   exact hj j (by omega)
theorem toGroupS_f (l : List S75) (M : Nat) (hM : ∀ x ∈ l, x.f0.f0.length ≤ M) (hM2 : M ≤ 1000000000) (hl : l.length ≤ 1000000000) (k : Nat) (hk : l.length + M < k) : laws_toGroupS.f k l = some (l.map convG) := by
 unfold laws_toGroupS.f
 rw [if_pos (by omega), if_pos (by omega)]
 exact toGroupS_l0 l M hM hM2 hl l.length k 0 _ (by simp) (by omega) (by omega) hk

/-! ### what is equal to itself -/
theorem eqInt_l0 (l : List Int) (hl : l.length ≤ 1000000000) (d : Nat) : ∀ (f i : Nat), i + d = l.length → d < f → laws_eqIntS.l0 f l l (i : Int) = some true := by
 induction d with
 | zero =>
  intro f i hi hf
  obtain ⟨f, rfl⟩ : ∃ m, f = m + 1 := ⟨f - 1, by omega⟩
  simp only [laws_eqIntS.l0]
  rw [if_neg (by omega)]
 | succ d ih =>
  intro f i hi hf
  obtain ⟨f, rfl⟩ : ∃ m, f = m + 1 := ⟨f - 1, by omega⟩
  simp only [laws_eqIntS.l0]
  rw [if_pos (by omega), if_pos (by omega), if_pos (by omega), if_pos trivial, wrap_id ((i : Int) + 1) (by omega) (by omega), show (i : Int) + 1 = ((i + 1 : Nat) : Int) from by omega]
  exact ih f (i + 1) (by omega) (by omega)
theorem eqInt_f (l : List Int) (hl : l.length ≤ 1000000000) (k : Nat) (hk : l.length < k) : laws_eqIntS.f k l l = some true := by
 unfold laws_eqIntS.f
 rw [if_pos rfl]
 exact eqInt_l0 l hl l.length k 0 (by omega) hk
theorem eqRow_f (l : List Int) (hl : l.length ≤ 1000000000) (k : Nat) (hk : l.length < k) : laws_eqRow.f k l l = some true := by
 unfold laws_eqRow.f
 rw [eqInt_f l hl k hk]; rfl
theorem eqGroup_f (l : List Int) (a b : Int) (hl : l.length ≤ 1000000000) (k : Nat) (hk : l.length < k) : laws_eqGroup.f k l a b l a b = some true := by
 unfold laws_eqGroup.f
 rw [eqRow_f l hl k hk]; simp
theorem eqGroupS_l0 (l : List S30) (M : Nat) (hM : ∀ x ∈ l, x.f0.f0.length ≤ M) (hM2 : M ≤ 1000000000) (hl : l.length ≤ 1000000000) (d : Nat) : ∀ (f i : Nat), i + d = l.length → d + M < f → laws_eqGroupS.l0 f l l (i : Int) = some true := by
 induction d with
 | zero =>
  intro f i hi hf
  obtain ⟨f, rfl⟩ : ∃ m, f = m + 1 := ⟨f - 1, by omega⟩
  simp only [laws_eqGroupS.l0]
  rw [if_neg (by omega)]
 | succ d ih =>
  intro f i hi hf
  obtain ⟨f, rfl⟩ : ∃ m, f = m + 1 := ⟨f - 1, by omega⟩
  have hlt : i < l.length := by omega
  have hle := hM _ (List.getElem_mem hlt)
  simp only [laws_eqGroupS.l0]
  rw [if_pos (by omega), if_pos (by omega), if_pos (by omega), rd30_at l i hlt, eqGroup_f _ _ _ (by omega) f (by omega)]
  simp only [Option.bind_some, if_true]
  rw [wrap_id ((i : Int) + 1) (by omega) (by omega), show (i : Int) + 1 = ((i + 1 : Nat) : Int) from by omega]
  exact ih f (i + 1) (by omega) (by omega)
theorem eqGroupS_f (l : List S30) (M : Nat) (hM : ∀ x ∈ l, x.f0.f0.length ≤ M) (hM2 : M ≤ 1000000000) (hl : l.length ≤ 1000000000) (k : Nat) (hk : l.length + M < k) : laws_eqGroupS.f k l l = some true := by
 unfold laws_eqGroupS.f
 rw [if_pos rfl]
 exact eqGroupS_l0 l M hM hM2 hl l.length k 0 (by omega) hk

/-! ### marks -/
theorem markInt_l0 (l : List Int) (a : Int) (h0 : 0 ≤ a) (ha : a + l.length ≤ 1000000000) (d : Nat) : ∀ (f i : Nat), i + d = l.length → d < f → laws_markIntS.l0 f (mkTo a l i) (a + i) (i : Int) = some (a + l.length, mkInts a l) := by
 induction d with
 | zero =>
  intro f i hi hf
  obtain ⟨f, rfl⟩ : ∃ m, f = m + 1 := ⟨f - 1, by omega⟩
  simp only [laws_markIntS.l0]
  rw [if_neg (by rw [mkTo_length]; omega)]
  have : i = l.length := by omega
  subst this
  rw [mkTo_all]
 | succ d ih =>
  intro f i hi hf
  obtain ⟨f, rfl⟩ : ∃ m, f = m + 1 := ⟨f - 1, by omega⟩
  simp only [laws_markIntS.l0]
  rw [if_pos (by rw [mkTo_length]; omega), if_pos (by omega), wrap_id ((i : Int) + 1) (by omega) (by omega), wrap_id (a + (i : Int) + 1) (by omega) (by omega), Int.toNat_natCast, ← mkTo_succ a l i (by omega)]
  have := ih f (i + 1) (by omega) (by omega)
  rw [show ((i + 1 : Nat) : Int) = (i : Int) + 1 from by omega, ← Int.add_assoc] at this
  exact this
theorem markInt_f (l : List Int) (a : Int) (h0 : 0 ≤ a) (ha : a + l.length ≤ 1000000000) (k : Nat) (hk : l.length < k) : laws_markIntS.f k l a = some (a + l.length, mkInts a l) := by
 have := markInt_l0 l a h0 ha l.length k 0 (by omega) hk
 rw [mkTo_zero] at this
 simpa [laws_markIntS.f] using this
theorem markRow_f (l : List Int) (a : Int) (h0 : 0 ≤ a) (ha : a + l.length ≤ 1000000000) (k : Nat) (hk : l.length < k) : laws_markRow.f k l a = some (a + l.length, mkInts a l) := by
 unfold laws_markRow.f
 rw [markInt_f l a h0 ha k hk]; rfl
theorem markGroup_f (l : List Int) (x y a : Int) (h0 : 0 ≤ a) (ha : a + l.length ≤ 1000000000) (k : Nat) (hk : l.length < k) : laws_markGroup.f k l x y a = some (a + l.length, mkInts a l) := by
 unfold laws_markGroup.f
 rw [markRow_f l a h0 ha k hk]; rfl
theorem mkInts_get (a : Int) (l : List Int) (i : Nat) (h : i < l.length) : (mkInts a l)[i]? = some (a + i) := by
 induction l generalizing a i with
 | nil => simp at h
 | cons x l ih =>
  cases i with
  | zero => simp [mkInts]
  | succ i =>
   simp only [mkInts, List.getElem?_cons_succ]
   rw [ih (a + 1) i (by simpa using h)]
   congr 1
   omega
theorem heldInt_l0 (l : List Int) (a : Int) (h0 : 0 ≤ a) (ha : a + l.length ≤ 1000000000) (d : Nat) : ∀ (f i : Nat), i + d = l.length → d < f → laws_heldIntS.l0 f (mkInts a l) (a + i) (i : Int) = some (a + l.length) := by
 induction d with
 | zero =>
  intro f i hi hf
  obtain ⟨f, rfl⟩ : ∃ m, f = m + 1 := ⟨f - 1, by omega⟩
  simp only [laws_heldIntS.l0]
  rw [if_neg (by rw [mkInts_length]; omega)]
  have : i = l.length := by omega
  subst this
  rfl
 | succ d ih =>
  intro f i hi hf
  obtain ⟨f, rfl⟩ : ∃ m, f = m + 1 := ⟨f - 1, by omega⟩
  simp only [laws_heldIntS.l0]
  have hg : rd (mkInts a l) (i : Int) = a + i := by
   show (mkInts a l).getD i 0 = _
   rw [List.getD_eq_getElem?_getD, mkInts_get a l i (by omega)]; rfl
  rw [if_pos (by rw [mkInts_length]; omega), if_pos (by omega), if_pos hg, wrap_id ((i : Int) + 1) (by omega) (by omega), wrap_id (a + (i : Int) + 1) (by omega) (by omega)]
  have := ih f (i + 1) (by omega) (by omega)
  rw [show ((i + 1 : Nat) : Int) = (i : Int) + 1 from by omega, ← Int.add_assoc] at this
  exact this
theorem heldInt_f (l : List Int) (a : Int) (h0 : 0 ≤ a) (ha : a + l.length ≤ 1000000000) (k : Nat) (hk : l.length < k) : laws_heldIntS.f k (mkInts a l) a = some (a + l.length) := by
 have := heldInt_l0 l a h0 ha l.length k 0 (by omega) hk
 simpa [laws_heldIntS.f] using this
theorem heldRow_f (l : List Int) (a : Int) (h0 : 0 ≤ a) (ha : a + l.length ≤ 1000000000) (k : Nat) (hk : l.length < k) : laws_heldRow.f k (mkInts a l) a = some (a + l.length) := by
 unfold laws_heldRow.f
 rw [heldInt_f l a h0 ha k hk]
 simp only [Option.bind_some]
 rw [if_neg (by omega)]
theorem heldGroup_f (l : List Int) (x y a : Int) (h0 : 0 ≤ a) (ha : a + l.length ≤ 1000000000) (k : Nat) (hk : l.length < k) : laws_heldGroup.f k (mkInts a l) x y a = some (a + l.length) := by
 unfold laws_heldGroup.f
 rw [heldRow_f l a h0 ha k hk]
 simp only [Option.bind_some]
 rw [if_neg (by omega)]

/-! ### the specification -/
theorem ownRow_f (l : List Int) (hl : l.length ≤ 1000000000) : spec_l2OwnRow.f l = some l := by
 unfold spec_l2OwnRow.f
 simp
 omega
theorem specGF_l0 (l : List S30) (key : List Int) (M : Nat) (hM : ∀ x ∈ l, x.f0.f0.length ≤ M) (hM2 : M ≤ 1000000000) (hkey : key.length ≤ 1000000000) (hl : l.length ≤ 1000000000) (d : Nat) : ∀ (f i : Nat), i + d = l.length → d + 2 * M + 2 < f → (∀ j, j < i → keyIs key (l.getD j z30) = false) →
  spec_GroupFor.l0 f l (l.length : Int) (i : Int) key = some (if 0 ≤ idxP (keyIs key) l then ((l.getD (idxP (keyIs key) l).toNat z30).f0.f0, (l.getD (idxP (keyIs key) l).toNat z30).f1, (l.getD (idxP (keyIs key) l).toNat z30).f2, true) else zKey) := by
 induction d with
 | zero =>
  intro f i hi hf hj
  obtain ⟨f, rfl⟩ : ∃ m, f = m + 1 := ⟨f - 1, by omega⟩
  simp only [spec_GroupFor.l0]
  rw [if_neg (by omega), idxP_miss' (keyIs key) l z30 (fun j hj2 => hj j (by omega))]
  rfl
 | succ d ih =>
  intro f i hi hf hj
  obtain ⟨f, rfl⟩ : ∃ m, f = m + 1 := ⟨f - 1, by omega⟩
  have hlt : i < l.length := by omega
  have hle := hM _ (List.getElem_mem hlt)
  have hgd : l.getD i z30 = l[i] := rd30_at l i hlt
  simp only [spec_GroupFor.l0]
  rw [if_pos (by omega), if_pos (by omega), if_pos (by omega), rd30_at l i hlt, specCompare_f _ _ (by omega) hkey f (by omega)]
  simp only [Option.bind_some]
  by_cases hz : cmpR l[i].f0.f0 key = 0
  ·rw [if_pos hz, ownRow_f _ (by omega)]
   simp only [Option.bind_some]
   have hix := idxP_hit (keyIs key) l z30 i hlt (by rw [hgd]; simp [keyIs, hz]) hj
   rw [hix, if_pos (by omega), Int.toNat_natCast, hgd]
  ·rw [if_neg hz, wrap_id ((i : Int) + 1) (by omega) (by omega), show (i : Int) + 1 = ((i + 1 : Nat) : Int) from by omega]
   refine ih f (i + 1) (by omega) (by omega) (fun j hj2 => ?_)
   by_cases e : j = i
   ·subst e
    rw [hgd]
    simp [keyIs, hz]
   ·exact hj j (by omega)
theorem specGF_f (l : List S30) (key : List Int) (M : Nat) (hM : ∀ x ∈ l, x.f0.f0.length ≤ M) (hM2 : M ≤ 1000000000) (hkey : key.length ≤ 1000000000) (hl : l.length ≤ 1000000000) (k : Nat) (hk : l.length + 2 * M + 2 < k) : spec_GroupFor.f k l key = some (groupForB l key) := by
 unfold spec_GroupFor.f spec_GoodGroups.f groupForB
 simp only [Option.bind_some]
 cases hg : goodGroupsB l with
 | false => simp [zKey]
 | true =>
  simp only [if_true, Bool.true_and, decide_eq_true_eq]
  exact specGF_l0 l key M hM hM2 hkey hl l.length k 0 (by omega) hk (by omega)
theorem klen75_mem (l : List S75) (x : S75) (h : x ∈ l) : x.f0.f0.length ≤ klen75 l := by
 induction l with
 | nil => simp at h
 | cons y l ih =>
  have e : klen75 (y :: l) = y.f0.f0.length + klen75 l := by simp only [klen75, List.map_cons, List.sum_cons]
  rw [e]
  rcases List.mem_cons.1 h with rfl | h
  ·omega
  ·have := ih h; omega
theorem gcount_conv (l : List S75) : gcount (l.map convG) = klen75 l + 2 * l.length := by
 induction l with
 | nil => rfl
 | cons y l ih =>
  have e : klen75 (y :: l) = y.f0.f0.length + klen75 l := by simp only [klen75, List.map_cons, List.sum_cons]
  have e2 : gcount ((y :: l).map convG) = ((convG y).f0.f0.length + 2) + gcount (l.map convG) := by simp only [gcount, List.map_cons, List.sum_cons]
  have e3 : (convG y).f0.f0.length = y.f0.f0.length := rfl
  rw [e, e2, ih, e3, List.length_cons]
  omega
end Go.Proofs.Ytbnmkikifjidjaa.Q
end
section
/- FnExactGroupFor's own walk: on every list of groups and every row it answers true, and leaves all that was there as it was. -/
namespace Go.Proofs.Ytbnmkikifjidjaa.Q
open Go.RowKit Go.Proofs.YtbnmkikifjidjaaW.PrintWords Go.Proofs.YtbnmkikifjidjaaW.PrintLast
set_option linter.unusedVariables false
set_option linter.unusedSimpArgs false

abbrev GR := List Int × Int × Int × Bool
/-- A group in memory, that is read. -/
def GBox (g : Nat) (r : GR) (W : World) : Prop := ∃ A c, W.heap[g]? = some (.cells #[.slice A r.1.length c, .int .i64 r.2.1, .int .i64 r.2.2.1] 30 (0, 0)) ∧ r.1.length ≤ c ∧ Kd.C (Kd.int .i64) W A r.1.length r.1
theorem GBox.below {g : Nat} {r : GR} {W W' : World} (h : GBox g r W) (hb : Below W.heap.size W W') : GBox g r W' := by
 obtain ⟨A, c, h0, h1, h2⟩ := h
 exact ⟨A, c, blk_below h0 hb, h1, Kd.C_below h2 hb⟩
theorem GBox.mk_ {g base : Nat} {r : GR} {W : World} {ok : Nat → Prop} {A : Option Addr} {c : Nat} (h : W.heap[g]? = some (.cells #[.slice A r.1.length c, .int .i64 r.2.1, .int .i64 r.2.2.1] 30 (0, 0))) (hr : Kd.R (Kd.int .i64) 3 W base ok (.slice A r.1.length c) r.1) : GBox g r W :=
 ⟨A, c, h, (Kd.R_reads' hr).2.1, (Kd.R_reads' hr).2.2⟩
/-- A group in memory whose row is the call's own, made between base and hi. -/
def GOwn (g base hi : Nat) (r : GR) (W : World) : Prop := ∃ A c, W.heap[g]? = some (.cells #[.slice A r.1.length c, .int .i64 r.2.1, .int .i64 r.2.2.1] 30 (0, 0)) ∧ Kd.R (Kd.int .i64) 3 W base (fun k => k < hi) (.slice A r.1.length c) r.1
theorem GOwn.below {g base hi : Nat} {r : GR} {W W' : World} (h : GOwn g base hi r W) (hb : Below W.heap.size W W') : GOwn g base hi r W' := by
 obtain ⟨A, c, h0, h1⟩ := h
 exact ⟨A, c, blk_below h0 hb, Kd.R_below h1 hb⟩
theorem GOwn.toBox {g base hi : Nat} {r : GR} {W : World} (h : GOwn g base hi r W) : GBox g r W := by
 obtain ⟨A, c, h0, h1⟩ := h
 exact GBox.mk_ h0 h1
/-- A row in memory, boxed, of the call's own. -/
def ROwn (g base hi : Nat) (l : List Int) (W : World) : Prop := ∃ A c, W.heap[g]? = some (.cells #[.slice A l.length c] 28 (0, 0)) ∧ Kd.R (Kd.int .i64) 3 W base (fun k => k < hi) (.slice A l.length c) l
theorem ROwn.below {g base hi : Nat} {l : List Int} {W W' : World} (h : ROwn g base hi l W) (hb : Below W.heap.size W W') : ROwn g base hi l W' := by
 obtain ⟨A, c, h0, h1⟩ := h
 exact ⟨A, c, blk_below h0 hb, Kd.R_below h1 hb⟩
/-- What a mark leaves: all but blocks between lo and hi. -/
def Spared (lo hi : Nat) (W W' : World) : Prop := W.heap.size ≤ W'.heap.size ∧ ∀ i, i < W.heap.size → (i < lo ∨ hi ≤ i) → W'.heap[i]? = W.heap[i]?
theorem GOwn.spared {g base hi lo hi' : Nat} {r : GR} {W W' : World} (h : GOwn g base hi r W) (hs : Spared lo hi' W W') (h1 : hi' ≤ base) (h2 : hi' ≤ g) : GOwn g base hi r W' := by
 obtain ⟨A, c, h0, r1⟩ := h
 refine ⟨A, c, (hs.2 g (blk_lt h0) (Or.inr h2)).trans h0, ?_⟩
 exact Kd.R_mono (Kd.R_step (Kd.R_bound r1) (fun k hk hlt => hs.2 k hlt (Or.inr (Nat.le_trans h1 hk.2.1)))) (fun k hk => hk.1)
theorem put3_blk {W : World} {g t : Nat} {v0 v1 v2 : Value} (h : W.heap[g]? = some (.cells #[v0, v1, v2] t (0, 0))) (u0 u1 u2 : Value) : (((W.setCell ⟨g, 0, none⟩ u0).setCell ⟨g, 1, none⟩ u1).setCell ⟨g, 2, none⟩ u2).heap[g]? = some (.cells #[u0, u1, u2] t (0, 0)) :=
 blk_put (blk_put (blk_put h 0 u0 rfl) 1 u1 rfl) 2 u2 rfl
theorem put3_R {α : Type} {d : Kd α} {e base : Nat} {W : World} {ok : Nat → Prop} {v : Value} {xs : List α} (h : d.R e W base ok v xs) {g t : Nat} {cs : Array Value} (hb : W.heap[g]? = some (.cells cs t (0, 0))) (ht : ∀ q, q ∈ e :: d.E → q ≠ t) (u0 u1 u2 : Value) : d.R e (((W.setCell ⟨g, 0, none⟩ u0).setCell ⟨g, 1, none⟩ u1).setCell ⟨g, 2, none⟩ u2) base ok v xs :=
 Kd.R_mono (Kd.R_far (p := ⟨g, 2, none⟩) (Kd.R_far (p := ⟨g, 1, none⟩) (Kd.R_far (p := ⟨g, 0, none⟩) (Kd.R_types h hb ht) (fun _ hk => hk.2) _) (fun _ hk => hk.2) _) (fun _ hk => hk.2) _) (fun _ hk => hk.1)
theorem put3_below {W w0 : World} {B g : Nat} (h : Below B w0 W) (hg : B ≤ g) (u0 u1 u2 : Value) : Below B w0 (((W.setCell ⟨g, 0, none⟩ u0).setCell ⟨g, 1, none⟩ u1).setCell ⟨g, 2, none⟩ u2) :=
 ((h.setCell (p := ⟨g, 0, none⟩) hg _).setCell (p := ⟨g, 1, none⟩) hg _).setCell (p := ⟨g, 2, none⟩) hg _
theorem put3_keep {W : World} {i g : Nat} {o : Obj} (h : W.heap[i]? = some o) (hg : i ≠ g) (u0 u1 u2 : Value) : (((W.setCell ⟨g, 0, none⟩ u0).setCell ⟨g, 1, none⟩ u1).setCell ⟨g, 2, none⟩ u2).heap[i]? = some o := by
 rw [Below.heap_setCell _ ⟨g, 2, none⟩ _ _ hg, Below.heap_setCell _ ⟨g, 1, none⟩ _ _ hg, Below.heap_setCell _ ⟨g, 0, none⟩ _ _ hg]
 exact h
theorem cells1_ {w : World} {g t : Nat} {v0 : Value} (h : w.heap[g]? = some (.cells #[v0] t (0, 0))) : w.cell? ⟨g, 0, none⟩ = some v0 := (blk_cell h 0).trans rfl
theorem ROwn.spared {g base hi lo hi' : Nat} {l : List Int} {W W' : World} (h : ROwn g base hi l W) (hs : Spared lo hi' W W') (h1 : hi' ≤ base) (h2 : hi' ≤ g) : ROwn g base hi l W' := by
 obtain ⟨A, c, h0, r1⟩ := h
 refine ⟨A, c, (hs.2 g (blk_lt h0) (Or.inr h2)).trans h0, ?_⟩
 exact Kd.R_mono (Kd.R_step (Kd.R_bound r1) (fun k hk hlt => hs.2 k hlt (Or.inr (Nat.le_trans h1 hk.2.1)))) (fun k hk => hk.1)
theorem Spared.of_wrote {lo hi : Nat} {B : Nat → Prop} {W W' : World} (h : Wrote B W W') (hB : ∀ k, B k → lo ≤ k ∧ k < hi) : Spared lo hi W W' :=
 ⟨h.size, fun i hi' ho => h.block i hi' (fun hb => by have := hB i hb; omega)⟩
theorem Spared.of_kept {lo hi : Nat} {B : Nat → Prop} {W W' : World} (h : Kept W W' B) (hB : ∀ k, B k → lo ≤ k ∧ k < hi) : Spared lo hi W W' :=
 ⟨h.1, fun i hi' ho => h.2 i hi' (fun hb => by have := hB i hb; omega)⟩
/-- A group in memory with a row that is some call's own. -/
def GAny (g : Nat) (r : GR) (W : World) : Prop := ∃ A c ok, W.heap[g]? = some (.cells #[.slice A r.1.length c, .int .i64 r.2.1, .int .i64 r.2.2.1] 30 (0, 0)) ∧ Kd.R (Kd.int .i64) 3 W 0 ok (.slice A r.1.length c) r.1
theorem GAny.below {g : Nat} {r : GR} {W W' : World} (h : GAny g r W) (hb : Below W.heap.size W W') : GAny g r W' := by
 obtain ⟨A, c, ok, h0, h1⟩ := h
 exact ⟨A, c, ok, blk_below h0 hb, Kd.R_below h1 hb⟩
theorem GAny.toBox {g : Nat} {r : GR} {W : World} (h : GAny g r W) : GBox g r W := by
 obtain ⟨A, c, ok, h0, h1⟩ := h
 exact GBox.mk_ h0 h1
theorem GAny.lt {g : Nat} {r : GR} {W : World} (h : GAny g r W) : g < W.heap.size := by
 obtain ⟨A, c, ok, h0, h1⟩ := h
 exact blk_lt h0
theorem GAny.put3 {g gx : Nat} {r : GR} {W : World} (h : GAny g r W) {v0 v1 v2 : Value} (hx : W.heap[gx]? = some (.cells #[v0, v1, v2] 30 (0, 0))) (hne : g ≠ gx) (u0 u1 u2 : Value) : GAny g r (((W.setCell ⟨gx, 0, none⟩ u0).setCell ⟨gx, 1, none⟩ u1).setCell ⟨gx, 2, none⟩ u2) := by
 obtain ⟨A, c, ok, h0, h1⟩ := h
 exact ⟨A, c, ok, put3_keep h0 hne _ _ _, put3_R h1 hx (by decide) _ _ _⟩
/-- The specification's answer and the program's are one: the law's comparison says so. -/
theorem eq_gbox {g g' : Nat} {r : GR} {W : World} (h : GBox g r W) (h' : GBox g' r W) (hl : r.1.length ≤ 1048576) :
  ∃ A c A' c', W.heap[g]? = some (.cells #[.slice A r.1.length c, .int .i64 r.2.1, .int .i64 r.2.2.1] 30 (0, 0)) ∧ W.heap[g']? = some (.cells #[.slice A' r.1.length c', .int .i64 r.2.1, .int .i64 r.2.2.1] 30 (0, 0)) ∧
   Calls Try.prog 12 #[.agg #[.slice A r.1.length c, .int .i64 r.2.1, .int .i64 r.2.2.1], .agg #[.slice A' r.1.length c', .int .i64 r.2.1, .int .i64 r.2.2.1]] W fun e w' => e = .returned (.bool true) ∧ Below W.heap.size W w' := by
 obtain ⟨A, c, h0, h1, h2⟩ := h
 obtain ⟨A', c', k0, k1, k2⟩ := h'
 exact ⟨A, c, A', c', h0, k0, laws_eqGroup.calls (r.1.length + 1) A c r.1 r.2.1 r.2.2.1 A' c' r.1 r.2.1 r.2.2.1 true W h2 h1 k2 k1 (eqGroup_f r.1 _ _ (by omega) _ (by omega))⟩
theorem held_gbox {g : Nat} {r : GR} {W : World} (h : GBox g (mkInts 1 r.1, r.2) W) (hl : r.1.length ≤ 1048576) {K : Int} (hK : K = 1 + (r.1.length : Int)) :
  ∃ A c, W.heap[g]? = some (.cells #[.slice A (mkInts 1 r.1).length c, .int .i64 r.2.1, .int .i64 r.2.2.1] 30 (0, 0)) ∧
   Calls Try.prog 18 #[.agg #[.slice A (mkInts 1 r.1).length c, .int .i64 r.2.1, .int .i64 r.2.2.1], .int .i64 1] W fun e w' => e = .returned (.int .i64 K) ∧ Below W.heap.size W w' := by
 obtain ⟨A, c, h0, h1, h2⟩ := h
 subst hK
 exact ⟨A, c, h0, laws_heldGroup.calls (r.1.length + 1) A c (mkInts 1 r.1) r.2.1 r.2.2.1 1 _ W h2 h1 (heldGroup_f r.1 _ _ 1 (by omega) (by omega) _ (by omega))⟩
theorem mark_gown {g base hi : Nat} {r : GR} {w0 W : World} (h : GOwn g base hi r W) (hB : Below w0.heap.size w0 W) (hb : w0.heap.size ≤ base) (hg : hi ≤ g) (hl : r.1.length ≤ 1048576) {K : Int} (hK : K = 1 + (r.1.length : Int)) :
  ∃ A c, W.heap[g]? = some (.cells #[.slice A r.1.length c, .int .i64 r.2.1, .int .i64 r.2.2.1] 30 (0, 0)) ∧
   Calls Try.prog 17 #[.agg #[.slice A r.1.length c, .int .i64 r.2.1, .int .i64 r.2.2.1], .int .i64 1] W fun e w' => e = .returned (.int .i64 K) ∧ GAny g (mkInts 1 r.1, r.2) w' ∧ Below w0.heap.size w0 w' := by
 obtain ⟨A, c, h0, h1⟩ := h
 subst hK
 refine ⟨A, c, h0, (laws_markGroup.calls (r.1.length + 1) (fun k => base ≤ k ∧ k < hi) _ r.1 r.2.1 r.2.2.1 1 _ _ w0 W hB (Kd.R_lower (Kd.R_mono (Kd.R_bound h1) (fun k hk => ⟨hk.2.1, hk.1⟩)) hb) (markGroup_f r.1 _ _ 1 (by omega) (by omega) _ (by omega))).mono ?_⟩
 rintro e w' ⟨rfl, hr, hb', hk⟩
 have hm : (mkInts 1 r.1).length = r.1.length := mkInts_length _ _
 refine ⟨rfl, ⟨A, c, (fun k => (base ≤ k ∧ k < hi) ∨ W.heap.size ≤ k), ?_, ?_⟩, hb'⟩
 ·show w'.heap[g]? = some (.cells #[.slice A (mkInts 1 r.1).length c, .int .i64 r.2.1, .int .i64 r.2.2.1] 30 (0, 0))
  rw [hm]
  exact (hk.2 g (blk_lt h0) (fun hP => by omega)).trans h0
 ·show Kd.R (Kd.int .i64) 3 w' 0 _ (.slice A (mkInts 1 r.1).length c) (mkInts 1 r.1)
  rw [hm]
  exact Kd.R_lower hr (Nat.zero_le _)
theorem kx30_in (W : World) (b : Nat) (o : Nat → Prop) (x : S30) (cs : List Value) (h : k30.M W b o x cs) : kx30.X W o x cs := by
 obtain ⟨v0, rfl, hr⟩ := k30_openM h
 refine ⟨[v0], [.int .i64 x.f1, .int .i64 x.f2], rfl, fun _ => true, ⟨v0, rfl, KX.Row_mono (fun k hk => ⟨hk, rfl⟩) (KX.Row_of_R (d := KX.int) (fun _ _ _ _ _ _ h => h) hr)⟩, ⟨[.int .i64 x.f1], [.int .i64 x.f2], rfl, fun _ => true, rfl, rfl⟩⟩
def T3_8 : Bool × List (List Nat × List Nat) := (true, [([], []), ([0], [0]), ([], []), ([2, 1], [2]), ([1, 3, 3], [1, 3]), ([4], [4]), ([5], [5]), ([5], [5]), ([], []), ([8, 6, 4, 0, 1, 2, 3, 4, 5, 6, 8], [6, 8]), ([7, 9, 0, 1, 2, 3, 4, 5, 6, 7, 8, 9], [7])])
def B3_8 : List Nat := [0, 1, 0, 7, 15, 31, 63, 63, 0, 383, 1023]
theorem tab3_8 : rtab .any (opsOf Try.f3 8) = T3_8 := by kernel_rfl
theorem bits3_8 : waitsOk T3_8.2 B3_8 = true := by kernel_rfl
def T3_16 : Bool × List (List Nat × List Nat) := (true, [([], []), ([], []), ([1], [1]), ([0, 2, 2], [0, 2]), ([3], [3])])
def B3_16 : List Nat := [0, 0, 2, 7, 15]
theorem tab3_16 : rtab .any (opsOf Try.f3 16) = T3_16 := by kernel_rfl
theorem bits3_16 : waitsOk T3_16.2 B3_16 = true := by kernel_rfl
def T3_31 : Bool × List (List Nat × List Nat) := (true, [([], []), ([0], [0]), ([], []), ([2, 1], [2]), ([1, 3, 3], [1, 3]), ([4], [4]), ([5], [5]), ([5], [5]), ([], []), ([8, 6, 4, 0, 1, 2, 3, 4, 5, 6, 8], [6, 8]), ([7, 9, 0, 1, 2, 3, 4, 5, 6, 7, 8, 9], [7])])
def B3_31 : List Nat := [0, 1, 0, 7, 15, 31, 63, 63, 0, 383, 1023]
theorem tab3_31 : rtab .any (opsOf Try.f3 31) = T3_31 := by kernel_rfl
theorem bits3_31 : waitsOk T3_31.2 B3_31 = true := by kernel_rfl
set_option maxHeartbeats 16000000 in
set_option maxRecDepth 100000 in
theorem law_groupfor (A Ak : Option Addr) (c ck : Nat) (l : List S75) (key : List Int) (w : World) (hr : Kd.C k75 w A l.length l) (hcap : l.length ≤ c) (hk : Kd.C (Kd.int .i64) w Ak key.length key) (hck : key.length ≤ ck) :
  Calls Try.prog 3 #[.slice A l.length c, .agg #[.slice Ak key.length ck]] w fun e w' => e = .returned (.bool true) ∧ Below w.heap.size w w' := by
 have hb1 : Below w.heap.size w (w.alloc (.cells #[.slice Ak key.length ck] 25)) := below_alloc (Below.refl _ w) _
 have hp0 := blk_new w (.cells #[.slice Ak key.length ck] 25)
 have HC1 := Aside0.mk (Kd.C_below hr hb1)
 have HCK := Aside0.mk (Kd.C_below hk hb1)
 have HCAP := Aside0.mk (And.intro hcap hck)
 have hlb : ∀ x ∈ l, x.f0.f0.length ≤ 9223372036854775807 := fun x hx => by
  obtain ⟨i, hi, rfl⟩ := List.getElem_of_mem hx
  obtain ⟨ad, A0, c0, e, x0, x1, x2, hl0, hC0⟩ := at_T75 hr (i : Int) (by omega) (by omega)
  have := hC0.2.1
  rw [rd75_at l i hi] at this
  exact this
 obtain ⟨n1, hn1, hsz1, hsz2, hsz3⟩ := szGroupS_f l hlb hr.2.1
 have HSZ1 := Aside0.mk (laws_szGroupS.calls (l.length + 1) A c l 1048576 n1 _ HC1.out hcap hn1)
 have HSZF := Aside0.mk (And.intro hsz1 (And.intro hsz2 hsz3))
 have HKL := Aside0.mk hk.2.1
 have hu25 := Try.underlying25
 have hu28 := Try.underlying28
 have hu30 := Try.underlying30
 clear hr hcap hk hck hlb hn1 hsz1 hsz2 hsz3
 go_enter Try.func3, Try.ntmps3
 go_upto_region 2 with fail
 generalize hp0_ : w.heap.size = p0 at hp0 hb1 ⊢
 rw [← hp0_] at hb1
 have HP := Aside0.mk hp0_
 clear hp0_
 generalize w.alloc (.cells #[.slice Ak key.length ck] 25) = W1 at hp0 hb1 HC1 HCK HSZ1 ⊢
 have HP0 := Aside0.mk hp0
 have HB0 := Aside0.mk hb1
 have HB1 : Aside0 (Below W1.heap.size W1 W1) := ⟨Below.refl _ _⟩
 clear hp0 hb1
 go_wp2_with fail
 go_at_call 6; refine HSZ1.out.mono ?_; rintro e w2 ⟨rfl, hb_⟩
 have n_ := Aside0.mk (below_then HB1.out HB1.out.size hb_); clear HB1; have HB1 := n_; clear n_ hb_ HSZ1
 by_cases hneg : n1 < 0
 ·go_wp2_with fail
  go_ret
  exact ⟨rfl, below_then HB0.out HB0.out.size HB1.out⟩
 have hc0 := cells1_ (blk_below HP0.out HB1.out)
 obtain ⟨n2, hn2, hsz4, hsz5, hsz6⟩ := szRow_f key n1 (by omega) HSZF.out.2.1 HKL.out
 have HSZ2 := Aside0.mk (laws_szRow.calls Ak ck key n1 n2 _ (Kd.C_below HCK.out HB1.out) HCAP.out.2 hn2)
 have HSZG := Aside0.mk (And.intro hsz4 (And.intro hsz5 hsz6))
 clear hn2 hsz4 hsz5 hsz6
 go_wp2_with fail
 go_at_call 7; refine HSZ2.out.mono ?_; rintro e w3 ⟨rfl, hb_⟩
 have n_ := Aside0.mk (below_then HB1.out HB1.out.size hb_); clear HB1; have HB1 := n_; clear n_ hb_ HSZ2 hc0
 by_cases hneg2 : n2 < 0
 ·go_wp2_with fail
  go_ret
  exact ⟨rfl, below_then HB0.out HB0.out.size HB1.out⟩
 have hL : l.length + klen75 l ≤ 1048576 := HSZF.out.1 (by omega)
 have hK : key.length ≤ 1048576 := by have := HSZG.out.1 (by omega); have := HSZF.out.2.1; omega
 have hM : ∀ x ∈ l, x.f0.f0.length ≤ 1048576 := fun x hx => by
  have := klen75_mem l x hx
  omega
 have hMG : ∀ x ∈ l.map convG, x.f0.f0.length ≤ 1048576 := fun x hx => by
  obtain ⟨y, hy, rfl⟩ := List.mem_map.1 hx
  exact hM y hy
 have hgc : gcount (l.map convG) ≤ 3000000 := by
  rw [gcount_conv]
  omega
 have HTO : Aside0 (∀ W, Below W1.heap.size W1 W → Calls Try.prog 9 #[.slice A l.length c] W fun e w' => ∃ X d, e = .returned (.slice X (l.map convG).length d) ∧ Kd.S k30 30 w' W.heap.size (fun _ => True) (.slice X (l.map convG).length d) (l.map convG) ∧ Below W.heap.size W w') := ⟨fun W hb => by
  refine (laws_toGroupS.calls (l.length + 1048576 + 1) A c l _ W (Kd.C_below HC1.out hb) HCAP.out.1 (toGroupS_f l 1048576 hM (by omega) (by omega) _ (by omega))).mono ?_
  rintro e w' ⟨v, rfl, hS, hb'⟩
  obtain ⟨X, d, rfl⟩ := Kd.S_slice hS
  exact ⟨X, d, rfl, hS, hb'⟩⟩
 have HTOR : Aside0 (∀ W, Below W1.heap.size W1 W → Calls Try.prog 10 #[.agg #[.slice Ak key.length ck]] W fun e w' => ∃ X d, e = .returned (.agg #[.slice X key.length d]) ∧ Kd.R (Kd.int .i64) 3 w' W.heap.size (fun _ => True) (.slice X key.length d) key ∧ Below W.heap.size W w') := ⟨fun W hb => by
  refine (laws_toRow.calls (key.length + 1) Ak ck key _ W (Kd.C_below HCK.out hb) HCAP.out.2 (toRow_f key (by omega) _ (by omega))).mono ?_
  rintro e w' ⟨v, rfl, hS, hb'⟩
  obtain ⟨X, d, rfl⟩ := Kd.R_slice hS
  exact ⟨X, d, rfl, hS, hb'⟩⟩
 have hGL : (l.map convG).length ≤ 1048576 := by rw [List.length_map]; omega
 generalize l.map convG = G at HTO hMG hgc hGL
 have HGM := Aside0.mk (And.intro hMG (And.intro hgc hGL))
 obtain ⟨r, hr_⟩ : ∃ r, r = groupForB G key := ⟨_, rfl⟩
 have hrl : r.1.length ≤ 1048576 := by
  rw [hr_]; unfold groupForB
  split
  ·have h1 := idxP_lt (keyIs key) G
   rename_i h2
   simp only [Bool.and_eq_true, decide_eq_true_eq] at h2
   exact hMG _ (mem_getD G z30 _ (by omega))
  ·simp [zKey]
 have HRL := Aside0.mk hrl
 have HSPEC : Aside0 (∀ (W : World) (X Y : Option Addr) (d d' : Nat), Kd.C k30 W X G.length G → G.length ≤ d → Kd.C (Kd.int .i64) W Y key.length key → key.length ≤ d' → Calls Try.prog 8 #[.slice X G.length d, .agg #[.slice Y key.length d']] W fun e w' => GFRet W w' e r) := ⟨fun W X Y d d' h1 h2 h3 h4 => by
  rw [hr_]
  exact spec_GroupFor.calls (G.length + 2 * 1048576 + 3) X d G Y d' key _ _ _ _ W h1 h2 h3 h4 (specGF_f G key 1048576 HGM.out.1 (by omega) (by omega) (by omega) _ (by omega))⟩
 have HIMPL : Aside0 (∀ (W : World) (X Y : Option Addr) (d d' : Nat), Kd.C k30 W X G.length G → G.length ≤ d → Kd.C (Kd.int .i64) W Y key.length key → key.length ≤ d' → Calls Try.prog 11 #[.slice X G.length d, .agg #[.slice Y key.length d']] W fun e w' => GFRet W w' e r) := ⟨fun W X Y d d' h1 h2 h3 h4 => by
  rw [hr_]
  exact implGroupFor_calls X Y d d' G key W h1 h2 h3 h4 (by omega) (fun x hx => by have := HGM.out.1 x hx; omega)⟩
 have HKL2 := Aside0.mk hK
 clear hL hK hM hMG hgc hGL hr_ hrl HSZF HSZG HKL hneg
 go_upto_region 8 with fail
 clear hneg2
 go_cut [6, 7] (fun v6 v7 wq => ∃ p6 : Nat, v6 = .pointer (some ⟨p6, 0, none⟩) ∧ v7 = .bool r.2.2.2 ∧ Aside0 (Below W1.heap.size W1 wq) ∧ Aside0 (GBox p6 r wq))
 case first =>
  have hdr_ : Below w3.heap.size w3 w3.drew := (Below.refl _ _).drew
  have n_ := Aside0.mk (below_then HB1.out HB1.out.size hdr_); clear HB1; have HB1 := n_; clear n_
  clear hdr_
  refine mS (S := fun w' => w'.cell? ⟨p0, 0, none⟩ = some (.slice Ak key.length ck)) tab3_8 bits3_8 (by kernel_rfl) rfl ((blk_cell (blk_below HP0.out HB1.out) 0).trans rfl) (fun hS_ HT_ HW_ => ?_)
  refine mL 0 0 1 (N := some 28) (v := ?_) (a' := ?_) HT_ HW_ rfl rfl (by kernel_rfl) (fun _ _ _ h => h) hS_ (by rfl) ?_ ?_ ?_; rotate_left 2; (rintro w' s0; go_simp; with_reducible rfl); (simp only [Act.put, List.setIfInBounds_toArray, List.set_cons_zero, List.set_cons_succ, i64_w, i32_w]; rfl)
  refine mL 2 1 5 (N := some 30) (v := ?_) (a' := ?_) HT_ HW_ rfl rfl (by kernel_rfl) (fun _ _ _ h => h) hS_ (by rfl) ?_ ?_ ?_; rotate_left 2; (rintro w' s0; go_simp; with_reducible rfl); (simp only [Act.put, List.setIfInBounds_toArray, List.set_cons_zero, List.set_cons_succ, i64_w, i32_w]; rfl)
  refine two_ (i := 1) (j := 8) (Ni := some 29) (Nj := some 6) (lB 11 7) (lB 11 261) rfl rfl rfl rfl (two_of HT_.out (by kernel_rfl)) (by decide) (by decide) (fun K hK => ?_) (fun K hK => ?_)
  ·refine goes_ Try.func9 (by kernel_rfl) rfl #[.slice A l.length c] (by rfl) rfl rfl (by (try simp only [List.map_toArray, List.map_cons, List.map_nil]); first | done | rfl) ?_
   refine (HTO.out _ HB1.out).mono ?_
   rintro e wa ⟨Xa, da, rfl, hSa, hb_⟩
   refine ⟨_, rfl, ?_⟩
   have n_ := Aside0.mk (below_then HB1.out HB1.out.size hb_); clear HB1; have HB1 := n_; clear n_
   have HTa := Aside0.mk (Kd.S_reads' hSa).2; clear hSa hb_
   refine hK.out _ _ ((blk_cell (blk_below HP0.out HB1.out) 0).trans rfl) (fun hS_ => ?_)
   clear hK K
   refine norm_ (a' := ?_) ?_ ?_
   rotate_left
   (show Act.put _ (some 29) _ = _; simp only [Act.put, List.setIfInBounds_toArray, List.set_cons_zero, List.set_cons_succ, i64_w, i32_w]; rfl)
   refine two_ (i := 3) (j := 8) (Ni := some 31) (Nj := some 6) (lB 11 15) (lB 11 263) rfl rfl rfl rfl (two_of HT_.out (by kernel_rfl)) (by decide) (by decide) (fun K hK => ?_) (fun K hK => ?_)
   ·refine goes_ Try.func10 (by kernel_rfl) rfl #[.agg #[.slice Ak key.length ck]] (by rfl) rfl rfl (by (try simp only [List.map_toArray, List.map_cons, List.map_nil]); first | done | rfl) ?_
    refine (HTOR.out _ HB1.out).mono ?_
    rintro e wb ⟨Xb, db, rfl, hRb, hb_⟩
    refine ⟨_, rfl, ?_⟩
    have n_ := Aside0.mk (below_then HB1.out HB1.out.size hb_); clear HB1; have HB1 := n_; clear n_
    have n_ := Aside0.mk (And.intro HTa.out.1 (Kd.C_below HTa.out.2 hb_)); clear HTa; have HTa := n_; clear n_
    have HTb := Aside0.mk (Kd.R_reads' hRb).2; clear hRb hb_
    refine hK.out _ _ ((blk_cell (blk_below HP0.out HB1.out) 0).trans rfl) (fun hS_ => ?_)
    clear hK K
    refine norm_ (a' := ?_) ?_ ?_
    rotate_left
    (show Act.put _ (some 31) _ = _; simp only [Act.put, List.setIfInBounds_toArray, List.set_cons_zero, List.set_cons_succ, i64_w, i32_w]; rfl)
    refine two_ (i := 4) (j := 8) (Ni := some 32) (Nj := some 6) (lB 11 31) (lB 11 271) rfl rfl rfl rfl (two_of HT_.out (by kernel_rfl)) (by decide) (by decide) (fun K hK => ?_) (fun K hK => ?_)
    ·refine goes_ Try.func8 (by kernel_rfl) rfl #[.slice Xa G.length da, .agg #[.slice Xb key.length db]] (by rfl) rfl rfl (by (try simp only [List.map_toArray, List.map_cons, List.map_nil]); first | done | rfl) ?_
     refine (HSPEC.out _ Xa Xb da db HTa.out.2 HTa.out.1 HTb.out.2 HTb.out.1).mono ?_
     rintro e wv ⟨v_, rfl, hR_, hb_⟩
     obtain ⟨Xc, dc, rfl⟩ := Kd.R_slice hR_
     refine ⟨_, rfl, ?_⟩
     have n_ := Aside0.mk (below_then HB1.out HB1.out.size hb_); clear HB1; have HB1 := n_; clear n_
     have n_ := Aside0.mk (And.intro HTa.out.1 (Kd.C_below HTa.out.2 hb_)); clear HTa; have HTa := n_; clear n_
     have n_ := Aside0.mk (And.intro HTb.out.1 (Kd.C_below HTb.out.2 hb_)); clear HTb; have HTb := n_; clear n_
     have HRV := Aside0.mk hR_; clear hR_ hb_ HTa HTb
     refine hK.out _ _ ((blk_cell (blk_below HP0.out HB1.out) 0).trans rfl) (fun hS_ => ?_)
     clear hK K
     refine norm_ (a' := ?_) ?_ ?_
     rotate_left
     (show Act.put _ (some 32) _ = _; simp only [Act.put, List.setIfInBounds_toArray, List.set_cons_zero, List.set_cons_succ, i64_w, i32_w]; rfl)
     refine mL 5 31 63 (N := some 27) (v := ?_) (a' := ?_) HT_ HW_ rfl rfl (by kernel_rfl) (fun _ _ _ h => h) hS_ (by rfl) ?_ ?_ ?_; rotate_left 2; (rintro w' s0; go_simp; with_reducible rfl); (simp only [Act.put, List.setIfInBounds_toArray, List.set_cons_zero, List.set_cons_succ, i64_w, i32_w]; rfl)
     refine mL 6 63 127 (N := some 33) (v := ?_) (a' := ?_) HT_ HW_ rfl rfl (by kernel_rfl) (fun _ _ _ h => h) hS_ (by rfl) ?_ ?_ ?_; rotate_left 2; (rintro w' s0; go_simp; with_reducible rfl); (simp only [Act.put, List.setIfInBounds_toArray, List.set_cons_zero, List.set_cons_succ, i64_w, i32_w]; rfl)
     refine mL 7 127 255 (N := some 34) (v := ?_) (a' := ?_) HT_ HW_ rfl rfl (by kernel_rfl) (fun _ _ _ h => h) hS_ (by rfl) ?_ ?_ ?_; rotate_left 2; (rintro w' s0; go_simp; with_reducible rfl); (simp only [Act.put, List.setIfInBounds_toArray, List.set_cons_zero, List.set_cons_succ, i64_w, i32_w]; rfl)
     refine one_ (i := 8) (N := some 6) (lB 11 511) rfl rfl (one_of HT_.out (by kernel_rfl)) (by decide) (fun K hK => ?_)
     refine box_step (by rfl) rfl (cs := #[.slice none 0 0, .int .i64 0, .int .i64 0]) (t := 30) (by first | (go_simp; done) | (go_simp; rfl)) (fun gx hgx wx hbox hb_ => ?_)
     have HGE := Aside0.mk (show W1.heap.size ≤ gx from by rw [hgx]; exact HB1.out.size)
     have n_ := Aside0.mk (below_then HB1.out HB1.out.size hb_); clear HB1; have HB1 := n_; clear n_
     have n_ := Aside0.mk (Kd.R_below HRV.out hb_); clear HRV; have HRV := n_; clear n_
     have HBX := Aside0.mk hbox
     clear hbox hb_ hgx
     refine hK.out _ _ ((blk_cell (blk_below HP0.out HB1.out) 0).trans rfl) (fun hS_ => ?_)
     clear hK K
     refine norm_ (a' := ?_) ?_ ?_
     rotate_left
     (show Act.put _ (some 6) _ = _; simp only [Act.put, List.setIfInBounds_toArray, List.set_cons_zero, List.set_cons_succ, i64_w, i32_w]; rfl)
     refine one_ (i := 9) (N := none) (lB 11 1023) rfl rfl (one_of HT_.out (by kernel_rfl)) (by decide) (fun K hK => ?_)
     have hgx_ := HBX.out
     obtain ⟨d0, d1, d2⟩ := cells3_ hgx_
     have f0 := blk_frozen hgx_ 0
     have f1 := blk_frozen hgx_ 1
     have f2 := blk_frozen hgx_ 2
     clear hgx_
     refine skip_ (w1 := (((wx.setCell ⟨gx, 0, none⟩ (.slice Xc r.1.length dc)).setCell ⟨gx, 1, none⟩ (.int .i64 r.2.1)).setCell ⟨gx, 2, none⟩ (.int .i64 r.2.2.1))) (by rfl) rfl (by first | (go_simp; done) | (go_simp; rfl)) ?_
     clear d0 d1 d2 f0 f1 f2
     have hbx_ := put3_blk HBX.out (.slice Xc r.1.length dc) (.int .i64 r.2.1) (.int .i64 r.2.2.1)
     have hrv_ := put3_R HRV.out HBX.out (by decide) (.slice Xc r.1.length dc) (.int .i64 r.2.1) (.int .i64 r.2.2.1)
     have n_ := Aside0.mk (put3_below HB1.out HGE.out (.slice Xc r.1.length dc) (.int .i64 r.2.1) (.int .i64 r.2.2.1)); clear HB1; have HB1 := n_; clear n_
     have HW := Aside0.mk (GBox.mk_ hbx_ hrv_)
     clear hbx_ hrv_ HBX HRV
     generalize (((wx.setCell ⟨gx, 0, none⟩ (.slice Xc r.1.length dc)).setCell ⟨gx, 1, none⟩ (.int .i64 r.2.1)).setCell ⟨gx, 2, none⟩ (.int .i64 r.2.2.1)) = wz at HW HB1 ⊢
     refine hK.out _ _ ((blk_cell (blk_below HP0.out HB1.out) 0).trans rfl) (fun hS_ => ?_)
     clear hK K
     refine mL 10 1023 2047 (N := some 7) (v := ?_) (a' := ?_) HT_ HW_ rfl rfl (by kernel_rfl) (fun _ _ _ h => h) hS_ (by rfl) ?_ ?_ ?_; rotate_left 2; (rintro w' s0; go_simp; with_reducible rfl); (simp only [Act.put, List.setIfInBounds_toArray, List.set_cons_zero, List.set_cons_succ, i64_w, i32_w]; rfl)
     refine mD HT_ (by kernel_rfl) ?_
     go_wp2_with fail
     go_meet
     case rel => exact ⟨gx, rfl, rfl, HB1, HW⟩
    ·refine box_step (by rfl) rfl (cs := #[.slice none 0 0, .int .i64 0, .int .i64 0]) (t := 30) (by first | (go_simp; done) | (go_simp; rfl)) (fun gx hgx wx hbox hb_ => ?_)
     have HGE := Aside0.mk (show W1.heap.size ≤ gx from by rw [hgx]; exact HB1.out.size)
     have n_ := Aside0.mk (below_then HB1.out HB1.out.size hb_); clear HB1; have HB1 := n_; clear n_
     have n_ := Aside0.mk (And.intro HTa.out.1 (Kd.C_below HTa.out.2 hb_)); clear HTa; have HTa := n_; clear n_
     have n_ := Aside0.mk (And.intro HTb.out.1 (Kd.C_below HTb.out.2 hb_)); clear HTb; have HTb := n_; clear n_
     have HBX := Aside0.mk hbox
     clear hbox hb_ hgx
     refine hK.out _ _ ((blk_cell (blk_below HP0.out HB1.out) 0).trans rfl) (fun hS_ => ?_)
     clear hK K
     refine norm_ (a' := ?_) ?_ ?_
     rotate_left
     (show Act.put _ (some 6) _ = _; simp only [Act.put, List.setIfInBounds_toArray, List.set_cons_zero, List.set_cons_succ, i64_w, i32_w]; rfl)
     refine one_ (i := 4) (N := some 32) (lB 11 287) rfl rfl (one_of HT_.out (by kernel_rfl)) (by decide) (fun K hK => ?_)
     refine goes_ Try.func8 (by kernel_rfl) rfl #[.slice Xa G.length da, .agg #[.slice Xb key.length db]] (by rfl) rfl rfl (by (try simp only [List.map_toArray, List.map_cons, List.map_nil]); first | done | rfl) ?_
     refine (HSPEC.out _ Xa Xb da db HTa.out.2 HTa.out.1 HTb.out.2 HTb.out.1).mono ?_
     rintro e wv ⟨v_, rfl, hR_, hb_⟩
     obtain ⟨Xc, dc, rfl⟩ := Kd.R_slice hR_
     refine ⟨_, rfl, ?_⟩
     have n_ := Aside0.mk (below_then HB1.out HB1.out.size hb_); clear HB1; have HB1 := n_; clear n_
     have n_ := Aside0.mk (And.intro HTa.out.1 (Kd.C_below HTa.out.2 hb_)); clear HTa; have HTa := n_; clear n_
     have n_ := Aside0.mk (And.intro HTb.out.1 (Kd.C_below HTb.out.2 hb_)); clear HTb; have HTb := n_; clear n_
     have n_ := Aside0.mk (blk_below HBX.out hb_); clear HBX; have HBX := n_; clear n_
     have HRV := Aside0.mk hR_; clear hR_ hb_ HTa HTb
     refine hK.out _ _ ((blk_cell (blk_below HP0.out HB1.out) 0).trans rfl) (fun hS_ => ?_)
     clear hK K
     refine norm_ (a' := ?_) ?_ ?_
     rotate_left
     (show Act.put _ (some 32) _ = _; simp only [Act.put, List.setIfInBounds_toArray, List.set_cons_zero, List.set_cons_succ, i64_w, i32_w]; rfl)
     refine mL 5 287 319 (N := some 27) (v := ?_) (a' := ?_) HT_ HW_ rfl rfl (by kernel_rfl) (fun _ _ _ h => h) hS_ (by rfl) ?_ ?_ ?_; rotate_left 2; (rintro w' s0; go_simp; with_reducible rfl); (simp only [Act.put, List.setIfInBounds_toArray, List.set_cons_zero, List.set_cons_succ, i64_w, i32_w]; rfl)
     refine mL 6 319 383 (N := some 33) (v := ?_) (a' := ?_) HT_ HW_ rfl rfl (by kernel_rfl) (fun _ _ _ h => h) hS_ (by rfl) ?_ ?_ ?_; rotate_left 2; (rintro w' s0; go_simp; with_reducible rfl); (simp only [Act.put, List.setIfInBounds_toArray, List.set_cons_zero, List.set_cons_succ, i64_w, i32_w]; rfl)
     refine mL 7 383 511 (N := some 34) (v := ?_) (a' := ?_) HT_ HW_ rfl rfl (by kernel_rfl) (fun _ _ _ h => h) hS_ (by rfl) ?_ ?_ ?_; rotate_left 2; (rintro w' s0; go_simp; with_reducible rfl); (simp only [Act.put, List.setIfInBounds_toArray, List.set_cons_zero, List.set_cons_succ, i64_w, i32_w]; rfl)
     refine one_ (i := 9) (N := none) (lB 11 1023) rfl rfl (one_of HT_.out (by kernel_rfl)) (by decide) (fun K hK => ?_)
     have hgx_ := HBX.out
     obtain ⟨d0, d1, d2⟩ := cells3_ hgx_
     have f0 := blk_frozen hgx_ 0
     have f1 := blk_frozen hgx_ 1
     have f2 := blk_frozen hgx_ 2
     clear hgx_
     refine skip_ (w1 := (((wv.setCell ⟨gx, 0, none⟩ (.slice Xc r.1.length dc)).setCell ⟨gx, 1, none⟩ (.int .i64 r.2.1)).setCell ⟨gx, 2, none⟩ (.int .i64 r.2.2.1))) (by rfl) rfl (by first | (go_simp; done) | (go_simp; rfl)) ?_
     clear d0 d1 d2 f0 f1 f2
     have hbx_ := put3_blk HBX.out (.slice Xc r.1.length dc) (.int .i64 r.2.1) (.int .i64 r.2.2.1)
     have hrv_ := put3_R HRV.out HBX.out (by decide) (.slice Xc r.1.length dc) (.int .i64 r.2.1) (.int .i64 r.2.2.1)
     have n_ := Aside0.mk (put3_below HB1.out HGE.out (.slice Xc r.1.length dc) (.int .i64 r.2.1) (.int .i64 r.2.2.1)); clear HB1; have HB1 := n_; clear n_
     have HW := Aside0.mk (GBox.mk_ hbx_ hrv_)
     clear hbx_ hrv_ HBX HRV
     generalize (((wv.setCell ⟨gx, 0, none⟩ (.slice Xc r.1.length dc)).setCell ⟨gx, 1, none⟩ (.int .i64 r.2.1)).setCell ⟨gx, 2, none⟩ (.int .i64 r.2.2.1)) = wz at HW HB1 ⊢
     refine hK.out _ _ ((blk_cell (blk_below HP0.out HB1.out) 0).trans rfl) (fun hS_ => ?_)
     clear hK K
     refine mL 10 1023 2047 (N := some 7) (v := ?_) (a' := ?_) HT_ HW_ rfl rfl (by kernel_rfl) (fun _ _ _ h => h) hS_ (by rfl) ?_ ?_ ?_; rotate_left 2; (rintro w' s0; go_simp; with_reducible rfl); (simp only [Act.put, List.setIfInBounds_toArray, List.set_cons_zero, List.set_cons_succ, i64_w, i32_w]; rfl)
     refine mD HT_ (by kernel_rfl) ?_
     go_wp2_with fail
     go_meet
     case rel => exact ⟨gx, rfl, rfl, HB1, HW⟩
   ·refine box_step (by rfl) rfl (cs := #[.slice none 0 0, .int .i64 0, .int .i64 0]) (t := 30) (by first | (go_simp; done) | (go_simp; rfl)) (fun gx hgx wx hbox hb_ => ?_)
    have HGE := Aside0.mk (show W1.heap.size ≤ gx from by rw [hgx]; exact HB1.out.size)
    have n_ := Aside0.mk (below_then HB1.out HB1.out.size hb_); clear HB1; have HB1 := n_; clear n_
    have n_ := Aside0.mk (And.intro HTa.out.1 (Kd.C_below HTa.out.2 hb_)); clear HTa; have HTa := n_; clear n_
    have HBX := Aside0.mk hbox
    clear hbox hb_ hgx
    refine hK.out _ _ ((blk_cell (blk_below HP0.out HB1.out) 0).trans rfl) (fun hS_ => ?_)
    clear hK K
    refine norm_ (a' := ?_) ?_ ?_
    rotate_left
    (show Act.put _ (some 6) _ = _; simp only [Act.put, List.setIfInBounds_toArray, List.set_cons_zero, List.set_cons_succ, i64_w, i32_w]; rfl)
    refine one_ (i := 3) (N := some 31) (lB 11 271) rfl rfl (one_of HT_.out (by kernel_rfl)) (by decide) (fun K hK => ?_)
    refine goes_ Try.func10 (by kernel_rfl) rfl #[.agg #[.slice Ak key.length ck]] (by rfl) rfl rfl (by (try simp only [List.map_toArray, List.map_cons, List.map_nil]); first | done | rfl) ?_
    refine (HTOR.out _ HB1.out).mono ?_
    rintro e wb ⟨Xb, db, rfl, hRb, hb_⟩
    refine ⟨_, rfl, ?_⟩
    have n_ := Aside0.mk (below_then HB1.out HB1.out.size hb_); clear HB1; have HB1 := n_; clear n_
    have n_ := Aside0.mk (And.intro HTa.out.1 (Kd.C_below HTa.out.2 hb_)); clear HTa; have HTa := n_; clear n_
    have n_ := Aside0.mk (blk_below HBX.out hb_); clear HBX; have HBX := n_; clear n_
    have HTb := Aside0.mk (Kd.R_reads' hRb).2; clear hRb hb_
    refine hK.out _ _ ((blk_cell (blk_below HP0.out HB1.out) 0).trans rfl) (fun hS_ => ?_)
    clear hK K
    refine norm_ (a' := ?_) ?_ ?_
    rotate_left
    (show Act.put _ (some 31) _ = _; simp only [Act.put, List.setIfInBounds_toArray, List.set_cons_zero, List.set_cons_succ, i64_w, i32_w]; rfl)
    refine one_ (i := 4) (N := some 32) (lB 11 287) rfl rfl (one_of HT_.out (by kernel_rfl)) (by decide) (fun K hK => ?_)
    refine goes_ Try.func8 (by kernel_rfl) rfl #[.slice Xa G.length da, .agg #[.slice Xb key.length db]] (by rfl) rfl rfl (by (try simp only [List.map_toArray, List.map_cons, List.map_nil]); first | done | rfl) ?_
    refine (HSPEC.out _ Xa Xb da db HTa.out.2 HTa.out.1 HTb.out.2 HTb.out.1).mono ?_
    rintro e wv ⟨v_, rfl, hR_, hb_⟩
    obtain ⟨Xc, dc, rfl⟩ := Kd.R_slice hR_
    refine ⟨_, rfl, ?_⟩
    have n_ := Aside0.mk (below_then HB1.out HB1.out.size hb_); clear HB1; have HB1 := n_; clear n_
    have n_ := Aside0.mk (And.intro HTa.out.1 (Kd.C_below HTa.out.2 hb_)); clear HTa; have HTa := n_; clear n_
    have n_ := Aside0.mk (blk_below HBX.out hb_); clear HBX; have HBX := n_; clear n_
    have n_ := Aside0.mk (And.intro HTb.out.1 (Kd.C_below HTb.out.2 hb_)); clear HTb; have HTb := n_; clear n_
    have HRV := Aside0.mk hR_; clear hR_ hb_ HTa HTb
    refine hK.out _ _ ((blk_cell (blk_below HP0.out HB1.out) 0).trans rfl) (fun hS_ => ?_)
    clear hK K
    refine norm_ (a' := ?_) ?_ ?_
    rotate_left
    (show Act.put _ (some 32) _ = _; simp only [Act.put, List.setIfInBounds_toArray, List.set_cons_zero, List.set_cons_succ, i64_w, i32_w]; rfl)
    refine mL 5 287 319 (N := some 27) (v := ?_) (a' := ?_) HT_ HW_ rfl rfl (by kernel_rfl) (fun _ _ _ h => h) hS_ (by rfl) ?_ ?_ ?_; rotate_left 2; (rintro w' s0; go_simp; with_reducible rfl); (simp only [Act.put, List.setIfInBounds_toArray, List.set_cons_zero, List.set_cons_succ, i64_w, i32_w]; rfl)
    refine mL 6 319 383 (N := some 33) (v := ?_) (a' := ?_) HT_ HW_ rfl rfl (by kernel_rfl) (fun _ _ _ h => h) hS_ (by rfl) ?_ ?_ ?_; rotate_left 2; (rintro w' s0; go_simp; with_reducible rfl); (simp only [Act.put, List.setIfInBounds_toArray, List.set_cons_zero, List.set_cons_succ, i64_w, i32_w]; rfl)
    refine mL 7 383 511 (N := some 34) (v := ?_) (a' := ?_) HT_ HW_ rfl rfl (by kernel_rfl) (fun _ _ _ h => h) hS_ (by rfl) ?_ ?_ ?_; rotate_left 2; (rintro w' s0; go_simp; with_reducible rfl); (simp only [Act.put, List.setIfInBounds_toArray, List.set_cons_zero, List.set_cons_succ, i64_w, i32_w]; rfl)
    refine one_ (i := 9) (N := none) (lB 11 1023) rfl rfl (one_of HT_.out (by kernel_rfl)) (by decide) (fun K hK => ?_)
    have hgx_ := HBX.out
    obtain ⟨d0, d1, d2⟩ := cells3_ hgx_
    have f0 := blk_frozen hgx_ 0
    have f1 := blk_frozen hgx_ 1
    have f2 := blk_frozen hgx_ 2
    clear hgx_
    refine skip_ (w1 := (((wv.setCell ⟨gx, 0, none⟩ (.slice Xc r.1.length dc)).setCell ⟨gx, 1, none⟩ (.int .i64 r.2.1)).setCell ⟨gx, 2, none⟩ (.int .i64 r.2.2.1))) (by rfl) rfl (by first | (go_simp; done) | (go_simp; rfl)) ?_
    clear d0 d1 d2 f0 f1 f2
    have hbx_ := put3_blk HBX.out (.slice Xc r.1.length dc) (.int .i64 r.2.1) (.int .i64 r.2.2.1)
    have hrv_ := put3_R HRV.out HBX.out (by decide) (.slice Xc r.1.length dc) (.int .i64 r.2.1) (.int .i64 r.2.2.1)
    have n_ := Aside0.mk (put3_below HB1.out HGE.out (.slice Xc r.1.length dc) (.int .i64 r.2.1) (.int .i64 r.2.2.1)); clear HB1; have HB1 := n_; clear n_
    have HW := Aside0.mk (GBox.mk_ hbx_ hrv_)
    clear hbx_ hrv_ HBX HRV
    generalize (((wv.setCell ⟨gx, 0, none⟩ (.slice Xc r.1.length dc)).setCell ⟨gx, 1, none⟩ (.int .i64 r.2.1)).setCell ⟨gx, 2, none⟩ (.int .i64 r.2.2.1)) = wz at HW HB1 ⊢
    refine hK.out _ _ ((blk_cell (blk_below HP0.out HB1.out) 0).trans rfl) (fun hS_ => ?_)
    clear hK K
    refine mL 10 1023 2047 (N := some 7) (v := ?_) (a' := ?_) HT_ HW_ rfl rfl (by kernel_rfl) (fun _ _ _ h => h) hS_ (by rfl) ?_ ?_ ?_; rotate_left 2; (rintro w' s0; go_simp; with_reducible rfl); (simp only [Act.put, List.setIfInBounds_toArray, List.set_cons_zero, List.set_cons_succ, i64_w, i32_w]; rfl)
    refine mD HT_ (by kernel_rfl) ?_
    go_wp2_with fail
    go_meet
    case rel => exact ⟨gx, rfl, rfl, HB1, HW⟩
  ·refine box_step (by rfl) rfl (cs := #[.slice none 0 0, .int .i64 0, .int .i64 0]) (t := 30) (by first | (go_simp; done) | (go_simp; rfl)) (fun gx hgx wx hbox hb_ => ?_)
   have HGE := Aside0.mk (show W1.heap.size ≤ gx from by rw [hgx]; exact HB1.out.size)
   have n_ := Aside0.mk (below_then HB1.out HB1.out.size hb_); clear HB1; have HB1 := n_; clear n_
   have HBX := Aside0.mk hbox
   clear hbox hb_ hgx
   refine hK.out _ _ ((blk_cell (blk_below HP0.out HB1.out) 0).trans rfl) (fun hS_ => ?_)
   clear hK K
   refine norm_ (a' := ?_) ?_ ?_
   rotate_left
   (show Act.put _ (some 6) _ = _; simp only [Act.put, List.setIfInBounds_toArray, List.set_cons_zero, List.set_cons_succ, i64_w, i32_w]; rfl)
   refine one_ (i := 1) (N := some 29) (lB 11 263) rfl rfl (one_of HT_.out (by kernel_rfl)) (by decide) (fun K hK => ?_)
   refine goes_ Try.func9 (by kernel_rfl) rfl #[.slice A l.length c] (by rfl) rfl rfl (by (try simp only [List.map_toArray, List.map_cons, List.map_nil]); first | done | rfl) ?_
   refine (HTO.out _ HB1.out).mono ?_
   rintro e wa ⟨Xa, da, rfl, hSa, hb_⟩
   refine ⟨_, rfl, ?_⟩
   have n_ := Aside0.mk (below_then HB1.out HB1.out.size hb_); clear HB1; have HB1 := n_; clear n_
   have n_ := Aside0.mk (blk_below HBX.out hb_); clear HBX; have HBX := n_; clear n_
   have HTa := Aside0.mk (Kd.S_reads' hSa).2; clear hSa hb_
   refine hK.out _ _ ((blk_cell (blk_below HP0.out HB1.out) 0).trans rfl) (fun hS_ => ?_)
   clear hK K
   refine norm_ (a' := ?_) ?_ ?_
   rotate_left
   (show Act.put _ (some 29) _ = _; simp only [Act.put, List.setIfInBounds_toArray, List.set_cons_zero, List.set_cons_succ, i64_w, i32_w]; rfl)
   refine one_ (i := 3) (N := some 31) (lB 11 271) rfl rfl (one_of HT_.out (by kernel_rfl)) (by decide) (fun K hK => ?_)
   refine goes_ Try.func10 (by kernel_rfl) rfl #[.agg #[.slice Ak key.length ck]] (by rfl) rfl rfl (by (try simp only [List.map_toArray, List.map_cons, List.map_nil]); first | done | rfl) ?_
   refine (HTOR.out _ HB1.out).mono ?_
   rintro e wb ⟨Xb, db, rfl, hRb, hb_⟩
   refine ⟨_, rfl, ?_⟩
   have n_ := Aside0.mk (below_then HB1.out HB1.out.size hb_); clear HB1; have HB1 := n_; clear n_
   have n_ := Aside0.mk (blk_below HBX.out hb_); clear HBX; have HBX := n_; clear n_
   have n_ := Aside0.mk (And.intro HTa.out.1 (Kd.C_below HTa.out.2 hb_)); clear HTa; have HTa := n_; clear n_
   have HTb := Aside0.mk (Kd.R_reads' hRb).2; clear hRb hb_
   refine hK.out _ _ ((blk_cell (blk_below HP0.out HB1.out) 0).trans rfl) (fun hS_ => ?_)
   clear hK K
   refine norm_ (a' := ?_) ?_ ?_
   rotate_left
   (show Act.put _ (some 31) _ = _; simp only [Act.put, List.setIfInBounds_toArray, List.set_cons_zero, List.set_cons_succ, i64_w, i32_w]; rfl)
   refine one_ (i := 4) (N := some 32) (lB 11 287) rfl rfl (one_of HT_.out (by kernel_rfl)) (by decide) (fun K hK => ?_)
   refine goes_ Try.func8 (by kernel_rfl) rfl #[.slice Xa G.length da, .agg #[.slice Xb key.length db]] (by rfl) rfl rfl (by (try simp only [List.map_toArray, List.map_cons, List.map_nil]); first | done | rfl) ?_
   refine (HSPEC.out _ Xa Xb da db HTa.out.2 HTa.out.1 HTb.out.2 HTb.out.1).mono ?_
   rintro e wv ⟨v_, rfl, hR_, hb_⟩
   obtain ⟨Xc, dc, rfl⟩ := Kd.R_slice hR_
   refine ⟨_, rfl, ?_⟩
   have n_ := Aside0.mk (below_then HB1.out HB1.out.size hb_); clear HB1; have HB1 := n_; clear n_
   have n_ := Aside0.mk (blk_below HBX.out hb_); clear HBX; have HBX := n_; clear n_
   have n_ := Aside0.mk (And.intro HTa.out.1 (Kd.C_below HTa.out.2 hb_)); clear HTa; have HTa := n_; clear n_
   have n_ := Aside0.mk (And.intro HTb.out.1 (Kd.C_below HTb.out.2 hb_)); clear HTb; have HTb := n_; clear n_
   have HRV := Aside0.mk hR_; clear hR_ hb_ HTa HTb
   refine hK.out _ _ ((blk_cell (blk_below HP0.out HB1.out) 0).trans rfl) (fun hS_ => ?_)
   clear hK K
   refine norm_ (a' := ?_) ?_ ?_
   rotate_left
   (show Act.put _ (some 32) _ = _; simp only [Act.put, List.setIfInBounds_toArray, List.set_cons_zero, List.set_cons_succ, i64_w, i32_w]; rfl)
   refine mL 5 287 319 (N := some 27) (v := ?_) (a' := ?_) HT_ HW_ rfl rfl (by kernel_rfl) (fun _ _ _ h => h) hS_ (by rfl) ?_ ?_ ?_; rotate_left 2; (rintro w' s0; go_simp; with_reducible rfl); (simp only [Act.put, List.setIfInBounds_toArray, List.set_cons_zero, List.set_cons_succ, i64_w, i32_w]; rfl)
   refine mL 6 319 383 (N := some 33) (v := ?_) (a' := ?_) HT_ HW_ rfl rfl (by kernel_rfl) (fun _ _ _ h => h) hS_ (by rfl) ?_ ?_ ?_; rotate_left 2; (rintro w' s0; go_simp; with_reducible rfl); (simp only [Act.put, List.setIfInBounds_toArray, List.set_cons_zero, List.set_cons_succ, i64_w, i32_w]; rfl)
   refine mL 7 383 511 (N := some 34) (v := ?_) (a' := ?_) HT_ HW_ rfl rfl (by kernel_rfl) (fun _ _ _ h => h) hS_ (by rfl) ?_ ?_ ?_; rotate_left 2; (rintro w' s0; go_simp; with_reducible rfl); (simp only [Act.put, List.setIfInBounds_toArray, List.set_cons_zero, List.set_cons_succ, i64_w, i32_w]; rfl)
   refine one_ (i := 9) (N := none) (lB 11 1023) rfl rfl (one_of HT_.out (by kernel_rfl)) (by decide) (fun K hK => ?_)
   have hgx_ := HBX.out
   obtain ⟨d0, d1, d2⟩ := cells3_ hgx_
   have f0 := blk_frozen hgx_ 0
   have f1 := blk_frozen hgx_ 1
   have f2 := blk_frozen hgx_ 2
   clear hgx_
   refine skip_ (w1 := (((wv.setCell ⟨gx, 0, none⟩ (.slice Xc r.1.length dc)).setCell ⟨gx, 1, none⟩ (.int .i64 r.2.1)).setCell ⟨gx, 2, none⟩ (.int .i64 r.2.2.1))) (by rfl) rfl (by first | (go_simp; done) | (go_simp; rfl)) ?_
   clear d0 d1 d2 f0 f1 f2
   have hbx_ := put3_blk HBX.out (.slice Xc r.1.length dc) (.int .i64 r.2.1) (.int .i64 r.2.2.1)
   have hrv_ := put3_R HRV.out HBX.out (by decide) (.slice Xc r.1.length dc) (.int .i64 r.2.1) (.int .i64 r.2.2.1)
   have n_ := Aside0.mk (put3_below HB1.out HGE.out (.slice Xc r.1.length dc) (.int .i64 r.2.1) (.int .i64 r.2.2.1)); clear HB1; have HB1 := n_; clear n_
   have HW := Aside0.mk (GBox.mk_ hbx_ hrv_)
   clear hbx_ hrv_ HBX HRV
   generalize (((wv.setCell ⟨gx, 0, none⟩ (.slice Xc r.1.length dc)).setCell ⟨gx, 1, none⟩ (.int .i64 r.2.1)).setCell ⟨gx, 2, none⟩ (.int .i64 r.2.2.1)) = wz at HW HB1 ⊢
   refine hK.out _ _ ((blk_cell (blk_below HP0.out HB1.out) 0).trans rfl) (fun hS_ => ?_)
   clear hK K
   refine mL 10 1023 2047 (N := some 7) (v := ?_) (a' := ?_) HT_ HW_ rfl rfl (by kernel_rfl) (fun _ _ _ h => h) hS_ (by rfl) ?_ ?_ ?_; rotate_left 2; (rintro w' s0; go_simp; with_reducible rfl); (simp only [Act.put, List.setIfInBounds_toArray, List.set_cons_zero, List.set_cons_succ, i64_w, i32_w]; rfl)
   refine mD HT_ (by kernel_rfl) ?_
   go_wp2_with fail
   go_meet
   case rel => exact ⟨gx, rfl, rfl, HB1, HW⟩
 case rest =>
  obtain ⟨p6, rfl, rfl, HB1, HW⟩ := hcut
  have HB12 := Aside0.mk HB1.out
  have HB2 : Aside0 (Below wc.heap.size wc wc) := ⟨Below.refl _ _⟩
  have HWQ := Aside0.mk HW.out
  clear HW
  obtain ⟨K1, hK1⟩ : ∃ K1 : Int, K1 = 1 + (gcount G : Int) := ⟨_, rfl⟩
  obtain ⟨K2, hK2⟩ : ∃ K2 : Int, K2 = K1 + (key.length : Int) := ⟨_, rfl⟩
  obtain ⟨K3, hK3⟩ : ∃ K3 : Int, K3 = 1 + (r.1.length : Int) := ⟨_, rfl⟩
  have hk2 : 0 ≤ K2 := by omega
  have hk3 : 0 ≤ K3 := by omega
  have HKS := Aside0.mk (And.intro hK1 (And.intro hK2 hK3))
  clear hK1 hK2 hK3
  go_wp2_with fail
  go_at_call 9; refine (HTO.out _ HB1.out).mono ?_; rintro e wa ⟨X0, d0, rfl, hS, hb_⟩
  have n_ := Aside0.mk (below_then HB1.out HB1.out.size hb_); clear HB1; have HB1 := n_; clear n_
  have n_ := Aside0.mk (below_then HB2.out HB2.out.size hb_); clear HB2; have HB2 := n_; clear n_
  have HX0 : Aside0 (kx30.Row 30 wa (fun k => wc.heap.size ≤ k ∧ k < wa.heap.size) (.slice X0 G.length d0) G) := ⟨KX.Row_of_S kx30_in (Kd.S_mono (Kd.S_bound hS) (fun k hk => ⟨hk.2.1, hk.2.2.1⟩))⟩
  have HC0 := Aside0.mk (Kd.S_reads' hS).2
  have hn2 := hb_.size
  have HN2 := Aside0.mk hn2
  clear hS hb_ hn2
  obtain ⟨n2, hn2⟩ : ∃ n2, n2 = wa.heap.size := ⟨_, rfl⟩
  rw [← hn2] at HX0 HN2
  have hc0 := cells1_ (blk_below HP0.out HB1.out)
  have HNA := Aside0.mk hn2; clear hn2
  go_wp2_with fail
  go_at_call 10; refine (HTOR.out _ HB1.out).mono ?_; rintro e wb ⟨X1, d1, rfl, hR, hb_⟩
  clear hc0
  have n_ := Aside0.mk (below_then HB1.out HB1.out.size hb_); clear HB1; have HB1 := n_; clear n_
  have n_ := Aside0.mk (below_then HB2.out HB2.out.size hb_); clear HB2; have HB2 := n_; clear n_
  have n_ := Aside0.mk (KX.Row_below HX0.out hb_); clear HX0; have HX0 := n_; clear n_
  have n_ := Aside0.mk (And.intro HC0.out.1 (Kd.C_below HC0.out.2 hb_)); clear HC0; have HC0 := n_; clear n_
  have hn3 := hb_.size
  rw [← HNA.out] at hn3
  have HN3 := Aside0.mk hn3
  clear hn3
  go_upto_region 11 with fail
  have hb2_ : Below wb.heap.size wb (wb.alloc (.cells #[.slice X1 key.length d1] 28)) := below_alloc (Below.refl _ _) _
  have HX1 : Aside0 (ROwn wb.heap.size n2 wb.heap.size key (wb.alloc (.cells #[.slice X1 key.length d1] 28))) := ⟨⟨X1, d1, blk_new wb _, by rw [HNA.out]; exact Kd.R_below (Kd.R_mono (Kd.R_bound hR) (fun k hk => hk.2.2.1)) hb2_⟩⟩
  have hsz_ : (wb.alloc (.cells #[.slice X1 key.length d1] 28)).heap.size = wb.heap.size + 1 := by simp
  clear hR hb_
  have n_ := Aside0.mk (below_then HB1.out HB1.out.size hb2_); clear HB1; have HB1 := n_; clear n_
  have n_ := Aside0.mk (below_then HB2.out HB2.out.size hb2_); clear HB2; have HB2 := n_; clear n_
  have n_ := Aside0.mk (KX.Row_below HX0.out hb2_); clear HX0; have HX0 := n_; clear n_
  have n_ := Aside0.mk (And.intro HC0.out.1 (Kd.C_below HC0.out.2 hb2_)); clear HC0; have HC0 := n_; clear n_
  obtain ⟨p9, hp9⟩ : ∃ p9, p9 = wb.heap.size := ⟨_, rfl⟩
  rw [← hp9] at HX1 HN3 hsz_ ⊢
  clear hb2_ hp9
  generalize wb.alloc (.cells #[.slice X1 key.length d1] 28) = W3 at HX1 HB1 HB2 HX0 HC0 hsz_ ⊢
  have HS3 := Aside0.mk hsz_; clear hsz_
  obtain ⟨Y1, e1, h9, r9⟩ := HX1.out
  have hc9 := cells1_ h9
  have HI := Aside0.mk (HIMPL.out W3 X0 Y1 d0 e1 HC0.out.2 HC0.out.1 (Kd.R_reads' r9).2.2 (Kd.R_reads' r9).2.1)
  clear h9 r9
  go_wp2_with fail
  go_at_call 11; refine HI.out.mono ?_; rintro e wu ⟨v_, rfl, hR, hb_⟩
  obtain ⟨Xg, dg, rfl⟩ := Kd.R_slice hR
  clear hc9 HI
  have n_ := Aside0.mk (below_then HB1.out HB1.out.size hb_); clear HB1; have HB1 := n_; clear n_
  have n_ := Aside0.mk (below_then HB2.out HB2.out.size hb_); clear HB2; have HB2 := n_; clear n_
  have n_ := Aside0.mk (KX.Row_below HX0.out hb_); clear HX0; have HX0 := n_; clear n_
  have n_ := Aside0.mk (And.intro HC0.out.1 (Kd.C_below HC0.out.2 hb_)); clear HC0; have HC0 := n_; clear n_
  have n_ := Aside0.mk (HX1.out.below hb_); clear HX1; have HX1 := n_; clear n_
  have hn4 := hb_.size
  go_upto_region 12 with fail
  have hb2_ : Below wu.heap.size wu (wu.alloc (.cells #[.slice Xg r.1.length dg, .int .i64 r.2.1, .int .i64 r.2.2.1] 30)) := below_alloc (Below.refl _ _) _
  have HG : Aside0 (GOwn wu.heap.size W3.heap.size wu.heap.size r (wu.alloc (.cells #[.slice Xg r.1.length dg, .int .i64 r.2.1, .int .i64 r.2.2.1] 30))) := ⟨⟨Xg, dg, blk_new wu _, Kd.R_below (Kd.R_mono (Kd.R_bound hR) (fun k hk => hk.2.2.1)) hb2_⟩⟩
  clear hR hb_
  have n_ := Aside0.mk (below_then HB1.out HB1.out.size hb2_); clear HB1; have HB1 := n_; clear n_
  have n_ := Aside0.mk (below_then HB2.out HB2.out.size hb2_); clear HB2; have HB2 := n_; clear n_
  have n_ := Aside0.mk (KX.Row_below HX0.out hb2_); clear HX0; have HX0 := n_; clear n_
  have n_ := Aside0.mk (And.intro HC0.out.1 (Kd.C_below HC0.out.2 hb2_)); clear HC0; have HC0 := n_; clear n_
  have n_ := Aside0.mk (HX1.out.below hb2_); clear HX1; have HX1 := n_; clear n_
  obtain ⟨p10, hp10⟩ : ∃ p10, p10 = wu.heap.size := ⟨_, rfl⟩
  rw [← hp10] at HG hn4 ⊢
  rw [HS3.out] at HG hn4
  have HN4 := Aside0.mk hn4
  clear hb2_ hp10 hn4
  generalize wu.alloc (.cells #[.slice Xg r.1.length dg, .int .i64 r.2.1, .int .i64 r.2.2.1] 30) = W4 at HG HX1 HB1 HB2 HX0 HC0 ⊢
  obtain ⟨A1, k1, A2, k2, hcA, hcB, heq⟩ := eq_gbox HG.out.toBox (HWQ.out.below HB2.out) HRL.out
  obtain ⟨a0, a1, a2⟩ := cells3_ hcA
  obtain ⟨b0, b1, b2⟩ := cells3_ hcB
  have HEQ := Aside0.mk heq
  clear hcA hcB heq
  go_wp2_with fail
  go_at_call 12; refine HEQ.out.mono ?_; rintro e wd ⟨rfl, hb_⟩
  clear a0 a1 a2 b0 b1 b2 HEQ
  have n_ := Aside0.mk (below_then HB1.out HB1.out.size hb_); clear HB1; have HB1 := n_; clear n_
  have n_ := Aside0.mk (below_then HB2.out HB2.out.size hb_); clear HB2; have HB2 := n_; clear n_
  have n_ := Aside0.mk (KX.Row_below HX0.out hb_); clear HX0; have HX0 := n_; clear n_
  have n_ := Aside0.mk (And.intro HC0.out.1 (Kd.C_below HC0.out.2 hb_)); clear HC0; have HC0 := n_; clear n_
  have n_ := Aside0.mk (HX1.out.below hb_); clear HX1; have HX1 := n_; clear n_
  have n_ := Aside0.mk (HG.out.below hb_); clear HG; have HG := n_; clear n_
  clear hb_
  go_wp2_with fail
  go_at_call 9; refine (HTO.out _ HB1.out).mono ?_; rintro e we ⟨Xe, de, rfl, hS, hb_⟩
  have n_ := Aside0.mk (below_then HB1.out HB1.out.size hb_); clear HB1; have HB1 := n_; clear n_
  have n_ := Aside0.mk (below_then HB2.out HB2.out.size hb_); clear HB2; have HB2 := n_; clear n_
  have n_ := Aside0.mk (KX.Row_below HX0.out hb_); clear HX0; have HX0 := n_; clear n_
  have n_ := Aside0.mk (And.intro HC0.out.1 (Kd.C_below HC0.out.2 hb_)); clear HC0; have HC0 := n_; clear n_
  have n_ := Aside0.mk (HX1.out.below hb_); clear HX1; have HX1 := n_; clear n_
  have n_ := Aside0.mk (HG.out.below hb_); clear HG; have HG := n_; clear n_
  have HCE := Aside0.mk (Kd.S_reads' hS).2
  clear hS hb_
  go_wp2_with fail
  go_at_call 13; refine (laws_eqGroupS.calls (G.length + 1048576 + 1) X0 d0 G Xe de G true _ HC0.out.2 HC0.out.1 HCE.out.2 HCE.out.1 (eqGroupS_f G 1048576 HGM.out.1 (by omega) (by have := HGM.out.2.2; omega) _ (by omega))).mono ?_; rintro e wf ⟨rfl, hb_⟩
  have n_ := Aside0.mk (below_then HB1.out HB1.out.size hb_); clear HB1; have HB1 := n_; clear n_
  have n_ := Aside0.mk (below_then HB2.out HB2.out.size hb_); clear HB2; have HB2 := n_; clear n_
  have n_ := Aside0.mk (KX.Row_below HX0.out hb_); clear HX0; have HX0 := n_; clear n_
  have n_ := Aside0.mk (And.intro HC0.out.1 (Kd.C_below HC0.out.2 hb_)); clear HC0; have HC0 := n_; clear n_
  have n_ := Aside0.mk (HX1.out.below hb_); clear HX1; have HX1 := n_; clear n_
  have n_ := Aside0.mk (HG.out.below hb_); clear HG; have HG := n_; clear n_
  clear hb_ HCE
  go_upto_region 16 with fail
  have hdr_ : Below wf.heap.size wf wf.drew := (Below.refl _ _).drew
  have n_ := Aside0.mk (below_then HB1.out HB1.out.size hdr_); clear HB1; have HB1 := n_; clear n_
  have n_ := Aside0.mk (below_then HB2.out HB2.out.size hdr_); clear HB2; have HB2 := n_; clear n_
  have n_ := Aside0.mk (KX.Row_below HX0.out hdr_); clear HX0; have HX0 := n_; clear n_
  have n_ := Aside0.mk (And.intro HC0.out.1 (Kd.C_below HC0.out.2 hdr_)); clear HC0; have HC0 := n_; clear n_
  have n_ := Aside0.mk (HX1.out.below hdr_); clear HX1; have HX1 := n_; clear n_
  have n_ := Aside0.mk (HG.out.below hdr_); clear HG; have HG := n_; clear n_
  clear hdr_
  skip
  obtain ⟨Y1, e1, h9, r9⟩ := HX1.out
  have HY9 := Aside0.mk h9
  have HYR := Aside0.mk (Kd.R_reads' r9).2
  clear h9 r9
  refine mS (S := fun w' => w'.cell? ⟨p9, 0, none⟩ = some (.slice Y1 key.length e1) ∧ w'.cell? ⟨p0, 0, none⟩ = some (.slice Ak key.length ck)) tab3_16 bits3_16 (by kernel_rfl) rfl ⟨cells1_ HY9.out, cells1_ (blk_below HP0.out HB1.out)⟩ (fun hS_ HT_ HW_ => ?_)
  refine mL 0 0 1 (N := some 59) (v := ?_) (a' := ?_) HT_ HW_ rfl rfl (by kernel_rfl) (fun _ _ _ h => h) hS_ (by rfl) ?_ ?_ ?_; rotate_left 2; (rintro w' ⟨s0, s1⟩; go_simp; with_reducible rfl); (simp only [Act.put, List.setIfInBounds_toArray, List.set_cons_zero, List.set_cons_succ, i64_w, i32_w]; rfl)
  refine mL 1 1 3 (N := some 60) (v := ?_) (a' := ?_) HT_ HW_ rfl rfl (by kernel_rfl) (fun _ _ _ h => h) hS_ (by rfl) ?_ ?_ ?_; rotate_left 2; (rintro w' ⟨s0, s1⟩; go_simp; with_reducible rfl); (simp only [Act.put, List.setIfInBounds_toArray, List.set_cons_zero, List.set_cons_succ, i64_w, i32_w]; rfl)
  refine one_ (i := 2) (N := some 61) (lB 5 7) rfl rfl (one_of HT_.out (by kernel_rfl)) (by decide) (fun K hK => ?_)
  refine goes_ Try.func10 (by kernel_rfl) rfl #[.agg #[.slice Ak key.length ck]] (by rfl) rfl rfl (by (try simp only [List.map_toArray, List.map_cons, List.map_nil]); first | done | rfl) ?_
  refine (HTOR.out _ HB1.out).mono ?_
  rintro e wg ⟨Xh, dh, rfl, hR, hb_⟩
  refine ⟨_, rfl, ?_⟩
  have n_ := Aside0.mk (below_then HB1.out HB1.out.size hb_); clear HB1; have HB1 := n_; clear n_
  have n_ := Aside0.mk (below_then HB2.out HB2.out.size hb_); clear HB2; have HB2 := n_; clear n_
  have n_ := Aside0.mk (KX.Row_below HX0.out hb_); clear HX0; have HX0 := n_; clear n_
  have n_ := Aside0.mk (And.intro HC0.out.1 (Kd.C_below HC0.out.2 hb_)); clear HC0; have HC0 := n_; clear n_
  have n_ := Aside0.mk (HX1.out.below hb_); clear HX1; have HX1 := n_; clear n_
  have n_ := Aside0.mk (HG.out.below hb_); clear HG; have HG := n_; clear n_
  have n_ := Aside0.mk (blk_below HY9.out hb_); clear HY9; have HY9 := n_; clear n_
  have n_ := Aside0.mk (And.intro HYR.out.1 (Kd.C_below HYR.out.2 hb_)); clear HYR; have HYR := n_; clear n_
  have HCH := Aside0.mk (Kd.R_reads' hR).2
  clear hR hb_
  refine hK.out _ _ ⟨cells1_ HY9.out, cells1_ (blk_below HP0.out HB1.out)⟩ (fun hS_ => ?_)
  clear hK K
  refine norm_ (a' := ?_) ?_ ?_
  rotate_left
  (simp only [Act.put, List.setIfInBounds_toArray, List.set_cons_zero, List.set_cons_succ, i64_w, i32_w]; rfl)
  refine one_ (i := 3) (N := some 62) (lB 5 15) rfl rfl (one_of HT_.out (by kernel_rfl)) (by decide) (fun K hK => ?_)
  refine goes_ Try.func14 (by kernel_rfl) rfl #[.agg #[.slice Y1 key.length e1], .agg #[.slice Xh key.length dh]] (by rfl) rfl rfl (by (try simp only [List.map_toArray, List.map_cons, List.map_nil]); first | done | rfl) ?_
  refine (laws_eqRow.calls (key.length + 1) Y1 e1 key Xh dh key true _ HYR.out.2 HYR.out.1 HCH.out.2 HCH.out.1 (eqRow_f key (by have := HKL2.out; omega) _ (by omega))).mono ?_
  rintro e wh ⟨rfl, hb_⟩
  refine ⟨_, rfl, ?_⟩
  have n_ := Aside0.mk (below_then HB1.out HB1.out.size hb_); clear HB1; have HB1 := n_; clear n_
  have n_ := Aside0.mk (below_then HB2.out HB2.out.size hb_); clear HB2; have HB2 := n_; clear n_
  have n_ := Aside0.mk (KX.Row_below HX0.out hb_); clear HX0; have HX0 := n_; clear n_
  have n_ := Aside0.mk (And.intro HC0.out.1 (Kd.C_below HC0.out.2 hb_)); clear HC0; have HC0 := n_; clear n_
  have n_ := Aside0.mk (HX1.out.below hb_); clear HX1; have HX1 := n_; clear n_
  have n_ := Aside0.mk (HG.out.below hb_); clear HG; have HG := n_; clear n_
  have n_ := Aside0.mk (blk_below HY9.out hb_); clear HY9; have HY9 := n_; clear n_
  have n_ := Aside0.mk (And.intro HYR.out.1 (Kd.C_below HYR.out.2 hb_)); clear HYR; have HYR := n_; clear n_
  clear hb_ HCH
  refine hK.out _ _ ⟨cells1_ HY9.out, cells1_ (blk_below HP0.out HB1.out)⟩ (fun hS_ => ?_)
  clear hK K
  refine norm_ (a' := ?_) ?_ ?_
  rotate_left
  (simp only [Act.put, List.setIfInBounds_toArray, List.set_cons_zero, List.set_cons_succ, i64_w, i32_w]; rfl)
  refine mL 4 15 31 (N := some 63) (v := ?_) (a' := ?_) HT_ HW_ rfl rfl (by kernel_rfl) (fun _ _ _ h => h) hS_ (by rfl) ?_ ?_ ?_; rotate_left 2; (rintro w' ⟨s0, s1⟩; go_simp; with_reducible rfl); (simp only [Act.put, List.setIfInBounds_toArray, List.set_cons_zero, List.set_cons_succ, i64_w, i32_w]; rfl)
  refine mD HT_ (by kernel_rfl) ?_
  clear HY9 HYR
  go_wp2_with fail
  have hmk := markGroupS_X (.slice X0 G.length d0) G 1 _ _ HX0.out (by omega) (by have := HGM.out.2.1; omega) (by have := HGM.out.2.2; omega)
  rw [← HKS.out.1] at hmk
  have HMK := Aside0.mk hmk; clear hmk
  go_at_call 15; refine HMK.out.mono ?_; rintro e wi ⟨rfl, hw_⟩
  have hsp := Spared.of_wrote (lo := wc.heap.size) (hi := n2) hw_ (fun k hk => hk)
  have n_ := Aside0.mk (Wrote.below HB2.out hw_ (fun k hk => hk.1) HB2.out.size); clear HB2; have HB2 := n_; clear n_
  have n_ := Aside0.mk (Wrote.below HB1.out hw_ (fun k hk => Nat.le_trans HB12.out.size hk.1) HB1.out.size); clear HB1; have HB1 := n_; clear n_
  have n_ := Aside0.mk (HX1.out.spared hsp (Nat.le_refl _) HN3.out); clear HX1; have HX1 := n_; clear n_
  have n_ := Aside0.mk (HG.out.spared hsp (by have := HN3.out; omega) (by have := HN3.out; have := HN4.out; omega)); clear HG; have HG := n_; clear n_
  clear hw_ hsp HX0 HC0 HMK
  obtain ⟨Y2, e2, h9, r9⟩ := HX1.out
  have hc9 := cells1_ h9
  have hmk := laws_markRow.calls (key.length + 1) (fun k => n2 ≤ k ∧ k < p9) _ key K1 _ _ wc _ HB2.out (Kd.R_lower (Kd.R_mono (Kd.R_bound r9) (fun k hk => ⟨hk.2.1, hk.1⟩)) HN2.out) (markRow_f key K1 (by have := HKS.out.1; omega) (by have := HKS.out.1; have := HGM.out.2.1; have := HKL2.out; omega) _ (by omega))
  rw [← HKS.out.2.1] at hmk
  have HMK := Aside0.mk hmk; clear hmk h9 r9
  go_wp2_with fail
  go_at_call 16; refine HMK.out.mono ?_; rintro e wj ⟨rfl, -, hb2_, hk_⟩
  have hsp := Spared.of_kept (lo := n2) (hi := p9) hk_ (fun k hk => hk)
  have n_ := Aside0.mk (HG.out.spared hsp (by omega) (by have := HN4.out; omega)); clear HG; have HG := n_; clear n_
  clear HB2; have HB2 := Aside0.mk hb2_
  clear HB1; have HB1 := Aside0.mk (below_then HB12.out HB12.out.size HB2.out)
  clear hc9 HMK hb2_ hk_ hsp HX1
  obtain ⟨A1, k1, A2, k2, hcA, hcB, heq⟩ := eq_gbox HG.out.toBox (HWQ.out.below HB2.out) HRL.out
  obtain ⟨a0, a1, a2⟩ := cells3_ hcA
  obtain ⟨b0, b1, b2⟩ := cells3_ hcB
  have HEQ := Aside0.mk heq
  clear hcA hcB heq
  go_wp2_with fail
  go_at_call 12; refine HEQ.out.mono ?_; rintro e wd ⟨rfl, hb_⟩
  clear a0 a1 a2 b0 b1 b2 HEQ
  have n_ := Aside0.mk (below_then HB1.out HB1.out.size hb_); clear HB1; have HB1 := n_; clear n_
  have n_ := Aside0.mk (below_then HB2.out HB2.out.size hb_); clear HB2; have HB2 := n_; clear n_
  have n_ := Aside0.mk (HG.out.below hb_); clear HG; have HG := n_; clear n_
  clear hb_
  obtain ⟨A1, k1, hcA, hmk⟩ := mark_gown HG.out HB2.out (by have := HN2.out; have := HN3.out; omega) (Nat.le_refl _) HRL.out HKS.out.2.2
  obtain ⟨a0, a1, a2⟩ := cells3_ hcA
  have HMK := Aside0.mk hmk; clear hcA hmk HG
  go_wp2_with fail
  go_at_call 17; refine HMK.out.mono ?_; rintro e wk ⟨rfl, hg_, hb_⟩
  have HG2 := Aside0.mk hg_
  clear HB2; have HB2 := Aside0.mk hb_
  clear HB1; have HB1 := Aside0.mk (below_then HB12.out HB12.out.size HB2.out)
  clear a0 a1 a2 HMK hg_ hb_
  obtain ⟨A1, k1, hcA, hmk⟩ := held_gbox HG2.out.toBox HRL.out HKS.out.2.2
  obtain ⟨a0, a1, a2⟩ := cells3_ hcA
  have HMK := Aside0.mk hmk; clear hcA hmk
  go_wp2_with fail
  go_at_call 18; refine HMK.out.mono ?_; rintro e wl ⟨rfl, hb_⟩
  have n_ := Aside0.mk (below_then HB1.out HB1.out.size hb_); clear HB1; have HB1 := n_; clear n_
  have n_ := Aside0.mk (below_then HB2.out HB2.out.size hb_); clear HB2; have HB2 := n_; clear n_
  have n_ := Aside0.mk (HG2.out.below hb_); clear HG2; have HG2 := n_; clear n_
  clear a0 a1 a2 HMK hb_
  go_upto_region 31 with fail
  go_cut [15, 16] (fun v15 v16 wr => ∃ p15 : Nat, v15 = .pointer (some ⟨p15, 0, none⟩) ∧ v16 = .bool r.2.2.2 ∧ Aside0 (Below wc.heap.size wc wr) ∧ Aside0 (GBox p15 r wr) ∧ Aside0 (GAny p10 (mkInts 1 r.1, r.2) wr))
  case first =>
   have hdr_ : Below wl.heap.size wl wl.drew := (Below.refl _ _).drew
   have n_ := Aside0.mk (below_then HB1.out HB1.out.size hdr_); clear HB1; have HB1 := n_; clear n_
   have n_ := Aside0.mk (below_then HB2.out HB2.out.size hdr_); clear HB2; have HB2 := n_; clear n_
   have n_ := Aside0.mk (HG2.out.below hdr_); clear HG2; have HG2 := n_; clear n_
   clear hdr_
   refine mS (S := fun w' => w'.cell? ⟨p0, 0, none⟩ = some (.slice Ak key.length ck)) tab3_31 bits3_31 (by kernel_rfl) rfl ((blk_cell (blk_below HP0.out HB1.out) 0).trans rfl) (fun hS_ HT_ HW_ => ?_)
   refine mL 0 0 1 (N := some 95) (v := ?_) (a' := ?_) HT_ HW_ rfl rfl (by kernel_rfl) (fun _ _ _ h => h) hS_ (by rfl) ?_ ?_ ?_; rotate_left 2; (rintro w' s0; go_simp; with_reducible rfl); (simp only [Act.put, List.setIfInBounds_toArray, List.set_cons_zero, List.set_cons_succ, i64_w, i32_w]; rfl)
   refine mL 2 1 5 (N := some 97) (v := ?_) (a' := ?_) HT_ HW_ rfl rfl (by kernel_rfl) (fun _ _ _ h => h) hS_ (by rfl) ?_ ?_ ?_; rotate_left 2; (rintro w' s0; go_simp; with_reducible rfl); (simp only [Act.put, List.setIfInBounds_toArray, List.set_cons_zero, List.set_cons_succ, i64_w, i32_w]; rfl)
   refine two_ (i := 1) (j := 8) (Ni := some 96) (Nj := some 15) (lB 11 7) (lB 11 261) rfl rfl rfl rfl (two_of HT_.out (by kernel_rfl)) (by decide) (by decide) (fun K hK => ?_) (fun K hK => ?_)
   ·refine goes_ Try.func9 (by kernel_rfl) rfl #[.slice A l.length c] (by rfl) rfl rfl (by (try simp only [List.map_toArray, List.map_cons, List.map_nil]); first | done | rfl) ?_
    refine (HTO.out _ HB1.out).mono ?_
    rintro e wa ⟨Xa, da, rfl, hSa, hb_⟩
    refine ⟨_, rfl, ?_⟩
    have n_ := Aside0.mk (below_then HB1.out HB1.out.size hb_); clear HB1; have HB1 := n_; clear n_
    have n_ := Aside0.mk (below_then HB2.out HB2.out.size hb_); clear HB2; have HB2 := n_; clear n_
    have n_ := Aside0.mk (HG2.out.below hb_); clear HG2; have HG2 := n_; clear n_
    have HTa := Aside0.mk (Kd.S_reads' hSa).2; clear hSa hb_
    refine hK.out _ _ ((blk_cell (blk_below HP0.out HB1.out) 0).trans rfl) (fun hS_ => ?_)
    clear hK K
    refine norm_ (a' := ?_) ?_ ?_
    rotate_left
    (show Act.put _ (some 96) _ = _; simp only [Act.put, List.setIfInBounds_toArray, List.set_cons_zero, List.set_cons_succ, i64_w, i32_w]; rfl)
    refine two_ (i := 3) (j := 8) (Ni := some 98) (Nj := some 15) (lB 11 15) (lB 11 263) rfl rfl rfl rfl (two_of HT_.out (by kernel_rfl)) (by decide) (by decide) (fun K hK => ?_) (fun K hK => ?_)
    ·refine goes_ Try.func10 (by kernel_rfl) rfl #[.agg #[.slice Ak key.length ck]] (by rfl) rfl rfl (by (try simp only [List.map_toArray, List.map_cons, List.map_nil]); first | done | rfl) ?_
     refine (HTOR.out _ HB1.out).mono ?_
     rintro e wb ⟨Xb, db, rfl, hRb, hb_⟩
     refine ⟨_, rfl, ?_⟩
     have n_ := Aside0.mk (below_then HB1.out HB1.out.size hb_); clear HB1; have HB1 := n_; clear n_
     have n_ := Aside0.mk (below_then HB2.out HB2.out.size hb_); clear HB2; have HB2 := n_; clear n_
     have n_ := Aside0.mk (HG2.out.below hb_); clear HG2; have HG2 := n_; clear n_
     have n_ := Aside0.mk (And.intro HTa.out.1 (Kd.C_below HTa.out.2 hb_)); clear HTa; have HTa := n_; clear n_
     have HTb := Aside0.mk (Kd.R_reads' hRb).2; clear hRb hb_
     refine hK.out _ _ ((blk_cell (blk_below HP0.out HB1.out) 0).trans rfl) (fun hS_ => ?_)
     clear hK K
     refine norm_ (a' := ?_) ?_ ?_
     rotate_left
     (show Act.put _ (some 98) _ = _; simp only [Act.put, List.setIfInBounds_toArray, List.set_cons_zero, List.set_cons_succ, i64_w, i32_w]; rfl)
     refine two_ (i := 4) (j := 8) (Ni := some 99) (Nj := some 15) (lB 11 31) (lB 11 271) rfl rfl rfl rfl (two_of HT_.out (by kernel_rfl)) (by decide) (by decide) (fun K hK => ?_) (fun K hK => ?_)
     ·refine goes_ Try.func11 (by kernel_rfl) rfl #[.slice Xa G.length da, .agg #[.slice Xb key.length db]] (by rfl) rfl rfl (by (try simp only [List.map_toArray, List.map_cons, List.map_nil]); first | done | rfl) ?_
      refine (HIMPL.out _ Xa Xb da db HTa.out.2 HTa.out.1 HTb.out.2 HTb.out.1).mono ?_
      rintro e wv ⟨v_, rfl, hR_, hb_⟩
      obtain ⟨Xc, dc, rfl⟩ := Kd.R_slice hR_
      refine ⟨_, rfl, ?_⟩
      have n_ := Aside0.mk (below_then HB1.out HB1.out.size hb_); clear HB1; have HB1 := n_; clear n_
      have n_ := Aside0.mk (below_then HB2.out HB2.out.size hb_); clear HB2; have HB2 := n_; clear n_
      have n_ := Aside0.mk (HG2.out.below hb_); clear HG2; have HG2 := n_; clear n_
      have n_ := Aside0.mk (And.intro HTa.out.1 (Kd.C_below HTa.out.2 hb_)); clear HTa; have HTa := n_; clear n_
      have n_ := Aside0.mk (And.intro HTb.out.1 (Kd.C_below HTb.out.2 hb_)); clear HTb; have HTb := n_; clear n_
      have HRV := Aside0.mk hR_; clear hR_ hb_ HTa HTb
      refine hK.out _ _ ((blk_cell (blk_below HP0.out HB1.out) 0).trans rfl) (fun hS_ => ?_)
      clear hK K
      refine norm_ (a' := ?_) ?_ ?_
      rotate_left
      (show Act.put _ (some 99) _ = _; simp only [Act.put, List.setIfInBounds_toArray, List.set_cons_zero, List.set_cons_succ, i64_w, i32_w]; rfl)
      refine mL 5 31 63 (N := some 94) (v := ?_) (a' := ?_) HT_ HW_ rfl rfl (by kernel_rfl) (fun _ _ _ h => h) hS_ (by rfl) ?_ ?_ ?_; rotate_left 2; (rintro w' s0; go_simp; with_reducible rfl); (simp only [Act.put, List.setIfInBounds_toArray, List.set_cons_zero, List.set_cons_succ, i64_w, i32_w]; rfl)
      refine mL 6 63 127 (N := some 100) (v := ?_) (a' := ?_) HT_ HW_ rfl rfl (by kernel_rfl) (fun _ _ _ h => h) hS_ (by rfl) ?_ ?_ ?_; rotate_left 2; (rintro w' s0; go_simp; with_reducible rfl); (simp only [Act.put, List.setIfInBounds_toArray, List.set_cons_zero, List.set_cons_succ, i64_w, i32_w]; rfl)
      refine mL 7 127 255 (N := some 101) (v := ?_) (a' := ?_) HT_ HW_ rfl rfl (by kernel_rfl) (fun _ _ _ h => h) hS_ (by rfl) ?_ ?_ ?_; rotate_left 2; (rintro w' s0; go_simp; with_reducible rfl); (simp only [Act.put, List.setIfInBounds_toArray, List.set_cons_zero, List.set_cons_succ, i64_w, i32_w]; rfl)
      refine one_ (i := 8) (N := some 15) (lB 11 511) rfl rfl (one_of HT_.out (by kernel_rfl)) (by decide) (fun K hK => ?_)
      refine box_step (by rfl) rfl (cs := #[.slice none 0 0, .int .i64 0, .int .i64 0]) (t := 30) (by first | (go_simp; done) | (go_simp; rfl)) (fun gx hgx wx hbox hb_ => ?_)
      have HGE := Aside0.mk (show wc.heap.size ≤ gx from by rw [hgx]; exact HB2.out.size)
      have HNE := Aside0.mk (show p10 ≠ gx from by rw [hgx]; exact Nat.ne_of_lt HG2.out.lt)
      have n_ := Aside0.mk (below_then HB1.out HB1.out.size hb_); clear HB1; have HB1 := n_; clear n_
      have n_ := Aside0.mk (below_then HB2.out HB2.out.size hb_); clear HB2; have HB2 := n_; clear n_
      have n_ := Aside0.mk (HG2.out.below hb_); clear HG2; have HG2 := n_; clear n_
      have n_ := Aside0.mk (Kd.R_below HRV.out hb_); clear HRV; have HRV := n_; clear n_
      have HBX := Aside0.mk hbox
      clear hbox hb_ hgx
      refine hK.out _ _ ((blk_cell (blk_below HP0.out HB1.out) 0).trans rfl) (fun hS_ => ?_)
      clear hK K
      refine norm_ (a' := ?_) ?_ ?_
      rotate_left
      (show Act.put _ (some 15) _ = _; simp only [Act.put, List.setIfInBounds_toArray, List.set_cons_zero, List.set_cons_succ, i64_w, i32_w]; rfl)
      refine one_ (i := 9) (N := none) (lB 11 1023) rfl rfl (one_of HT_.out (by kernel_rfl)) (by decide) (fun K hK => ?_)
      have hgx_ := HBX.out
      obtain ⟨d0, d1, d2⟩ := cells3_ hgx_
      have f0 := blk_frozen hgx_ 0
      have f1 := blk_frozen hgx_ 1
      have f2 := blk_frozen hgx_ 2
      clear hgx_
      refine skip_ (w1 := (((wx.setCell ⟨gx, 0, none⟩ (.slice Xc r.1.length dc)).setCell ⟨gx, 1, none⟩ (.int .i64 r.2.1)).setCell ⟨gx, 2, none⟩ (.int .i64 r.2.2.1))) (by rfl) rfl (by first | (go_simp; done) | (go_simp; rfl)) ?_
      clear d0 d1 d2 f0 f1 f2
      have hbx_ := put3_blk HBX.out (.slice Xc r.1.length dc) (.int .i64 r.2.1) (.int .i64 r.2.2.1)
      have hrv_ := put3_R HRV.out HBX.out (by decide) (.slice Xc r.1.length dc) (.int .i64 r.2.1) (.int .i64 r.2.2.1)
      have n_ := Aside0.mk (put3_below HB1.out (Nat.le_trans HB12.out.size HGE.out) (.slice Xc r.1.length dc) (.int .i64 r.2.1) (.int .i64 r.2.2.1)); clear HB1; have HB1 := n_; clear n_
      have n_ := Aside0.mk (put3_below HB2.out HGE.out (.slice Xc r.1.length dc) (.int .i64 r.2.1) (.int .i64 r.2.2.1)); clear HB2; have HB2 := n_; clear n_
      have n_ := Aside0.mk (HG2.out.put3 HBX.out HNE.out (.slice Xc r.1.length dc) (.int .i64 r.2.1) (.int .i64 r.2.2.1)); clear HG2; have HG2 := n_; clear n_
      have HW := Aside0.mk (GBox.mk_ hbx_ hrv_)
      clear hbx_ hrv_ HBX HRV
      generalize (((wx.setCell ⟨gx, 0, none⟩ (.slice Xc r.1.length dc)).setCell ⟨gx, 1, none⟩ (.int .i64 r.2.1)).setCell ⟨gx, 2, none⟩ (.int .i64 r.2.2.1)) = wz at HW HB1 HB2 HG2 ⊢
      refine hK.out _ _ ((blk_cell (blk_below HP0.out HB1.out) 0).trans rfl) (fun hS_ => ?_)
      clear hK K
      refine mL 10 1023 2047 (N := some 16) (v := ?_) (a' := ?_) HT_ HW_ rfl rfl (by kernel_rfl) (fun _ _ _ h => h) hS_ (by rfl) ?_ ?_ ?_; rotate_left 2; (rintro w' s0; go_simp; with_reducible rfl); (simp only [Act.put, List.setIfInBounds_toArray, List.set_cons_zero, List.set_cons_succ, i64_w, i32_w]; rfl)
      refine mD HT_ (by kernel_rfl) ?_
      go_wp2_with fail
      go_meet
      case rel => exact ⟨gx, rfl, rfl, HB2, HW, HG2⟩
     ·refine box_step (by rfl) rfl (cs := #[.slice none 0 0, .int .i64 0, .int .i64 0]) (t := 30) (by first | (go_simp; done) | (go_simp; rfl)) (fun gx hgx wx hbox hb_ => ?_)
      have HGE := Aside0.mk (show wc.heap.size ≤ gx from by rw [hgx]; exact HB2.out.size)
      have HNE := Aside0.mk (show p10 ≠ gx from by rw [hgx]; exact Nat.ne_of_lt HG2.out.lt)
      have n_ := Aside0.mk (below_then HB1.out HB1.out.size hb_); clear HB1; have HB1 := n_; clear n_
      have n_ := Aside0.mk (below_then HB2.out HB2.out.size hb_); clear HB2; have HB2 := n_; clear n_
      have n_ := Aside0.mk (HG2.out.below hb_); clear HG2; have HG2 := n_; clear n_
      have n_ := Aside0.mk (And.intro HTa.out.1 (Kd.C_below HTa.out.2 hb_)); clear HTa; have HTa := n_; clear n_
      have n_ := Aside0.mk (And.intro HTb.out.1 (Kd.C_below HTb.out.2 hb_)); clear HTb; have HTb := n_; clear n_
      have HBX := Aside0.mk hbox
      clear hbox hb_ hgx
      refine hK.out _ _ ((blk_cell (blk_below HP0.out HB1.out) 0).trans rfl) (fun hS_ => ?_)
      clear hK K
      refine norm_ (a' := ?_) ?_ ?_
      rotate_left
      (show Act.put _ (some 15) _ = _; simp only [Act.put, List.setIfInBounds_toArray, List.set_cons_zero, List.set_cons_succ, i64_w, i32_w]; rfl)
      refine one_ (i := 4) (N := some 99) (lB 11 287) rfl rfl (one_of HT_.out (by kernel_rfl)) (by decide) (fun K hK => ?_)
      refine goes_ Try.func11 (by kernel_rfl) rfl #[.slice Xa G.length da, .agg #[.slice Xb key.length db]] (by rfl) rfl rfl (by (try simp only [List.map_toArray, List.map_cons, List.map_nil]); first | done | rfl) ?_
      refine (HIMPL.out _ Xa Xb da db HTa.out.2 HTa.out.1 HTb.out.2 HTb.out.1).mono ?_
      rintro e wv ⟨v_, rfl, hR_, hb_⟩
      obtain ⟨Xc, dc, rfl⟩ := Kd.R_slice hR_
      refine ⟨_, rfl, ?_⟩
      have n_ := Aside0.mk (below_then HB1.out HB1.out.size hb_); clear HB1; have HB1 := n_; clear n_
      have n_ := Aside0.mk (below_then HB2.out HB2.out.size hb_); clear HB2; have HB2 := n_; clear n_
      have n_ := Aside0.mk (HG2.out.below hb_); clear HG2; have HG2 := n_; clear n_
      have n_ := Aside0.mk (And.intro HTa.out.1 (Kd.C_below HTa.out.2 hb_)); clear HTa; have HTa := n_; clear n_
      have n_ := Aside0.mk (And.intro HTb.out.1 (Kd.C_below HTb.out.2 hb_)); clear HTb; have HTb := n_; clear n_
      have n_ := Aside0.mk (blk_below HBX.out hb_); clear HBX; have HBX := n_; clear n_
      have HRV := Aside0.mk hR_; clear hR_ hb_ HTa HTb
      refine hK.out _ _ ((blk_cell (blk_below HP0.out HB1.out) 0).trans rfl) (fun hS_ => ?_)
      clear hK K
      refine norm_ (a' := ?_) ?_ ?_
      rotate_left
      (show Act.put _ (some 99) _ = _; simp only [Act.put, List.setIfInBounds_toArray, List.set_cons_zero, List.set_cons_succ, i64_w, i32_w]; rfl)
      refine mL 5 287 319 (N := some 94) (v := ?_) (a' := ?_) HT_ HW_ rfl rfl (by kernel_rfl) (fun _ _ _ h => h) hS_ (by rfl) ?_ ?_ ?_; rotate_left 2; (rintro w' s0; go_simp; with_reducible rfl); (simp only [Act.put, List.setIfInBounds_toArray, List.set_cons_zero, List.set_cons_succ, i64_w, i32_w]; rfl)
      refine mL 6 319 383 (N := some 100) (v := ?_) (a' := ?_) HT_ HW_ rfl rfl (by kernel_rfl) (fun _ _ _ h => h) hS_ (by rfl) ?_ ?_ ?_; rotate_left 2; (rintro w' s0; go_simp; with_reducible rfl); (simp only [Act.put, List.setIfInBounds_toArray, List.set_cons_zero, List.set_cons_succ, i64_w, i32_w]; rfl)
      refine mL 7 383 511 (N := some 101) (v := ?_) (a' := ?_) HT_ HW_ rfl rfl (by kernel_rfl) (fun _ _ _ h => h) hS_ (by rfl) ?_ ?_ ?_; rotate_left 2; (rintro w' s0; go_simp; with_reducible rfl); (simp only [Act.put, List.setIfInBounds_toArray, List.set_cons_zero, List.set_cons_succ, i64_w, i32_w]; rfl)
      refine one_ (i := 9) (N := none) (lB 11 1023) rfl rfl (one_of HT_.out (by kernel_rfl)) (by decide) (fun K hK => ?_)
      have hgx_ := HBX.out
      obtain ⟨d0, d1, d2⟩ := cells3_ hgx_
      have f0 := blk_frozen hgx_ 0
      have f1 := blk_frozen hgx_ 1
      have f2 := blk_frozen hgx_ 2
      clear hgx_
      refine skip_ (w1 := (((wv.setCell ⟨gx, 0, none⟩ (.slice Xc r.1.length dc)).setCell ⟨gx, 1, none⟩ (.int .i64 r.2.1)).setCell ⟨gx, 2, none⟩ (.int .i64 r.2.2.1))) (by rfl) rfl (by first | (go_simp; done) | (go_simp; rfl)) ?_
      clear d0 d1 d2 f0 f1 f2
      have hbx_ := put3_blk HBX.out (.slice Xc r.1.length dc) (.int .i64 r.2.1) (.int .i64 r.2.2.1)
      have hrv_ := put3_R HRV.out HBX.out (by decide) (.slice Xc r.1.length dc) (.int .i64 r.2.1) (.int .i64 r.2.2.1)
      have n_ := Aside0.mk (put3_below HB1.out (Nat.le_trans HB12.out.size HGE.out) (.slice Xc r.1.length dc) (.int .i64 r.2.1) (.int .i64 r.2.2.1)); clear HB1; have HB1 := n_; clear n_
      have n_ := Aside0.mk (put3_below HB2.out HGE.out (.slice Xc r.1.length dc) (.int .i64 r.2.1) (.int .i64 r.2.2.1)); clear HB2; have HB2 := n_; clear n_
      have n_ := Aside0.mk (HG2.out.put3 HBX.out HNE.out (.slice Xc r.1.length dc) (.int .i64 r.2.1) (.int .i64 r.2.2.1)); clear HG2; have HG2 := n_; clear n_
      have HW := Aside0.mk (GBox.mk_ hbx_ hrv_)
      clear hbx_ hrv_ HBX HRV
      generalize (((wv.setCell ⟨gx, 0, none⟩ (.slice Xc r.1.length dc)).setCell ⟨gx, 1, none⟩ (.int .i64 r.2.1)).setCell ⟨gx, 2, none⟩ (.int .i64 r.2.2.1)) = wz at HW HB1 HB2 HG2 ⊢
      refine hK.out _ _ ((blk_cell (blk_below HP0.out HB1.out) 0).trans rfl) (fun hS_ => ?_)
      clear hK K
      refine mL 10 1023 2047 (N := some 16) (v := ?_) (a' := ?_) HT_ HW_ rfl rfl (by kernel_rfl) (fun _ _ _ h => h) hS_ (by rfl) ?_ ?_ ?_; rotate_left 2; (rintro w' s0; go_simp; with_reducible rfl); (simp only [Act.put, List.setIfInBounds_toArray, List.set_cons_zero, List.set_cons_succ, i64_w, i32_w]; rfl)
      refine mD HT_ (by kernel_rfl) ?_
      go_wp2_with fail
      go_meet
      case rel => exact ⟨gx, rfl, rfl, HB2, HW, HG2⟩
    ·refine box_step (by rfl) rfl (cs := #[.slice none 0 0, .int .i64 0, .int .i64 0]) (t := 30) (by first | (go_simp; done) | (go_simp; rfl)) (fun gx hgx wx hbox hb_ => ?_)
     have HGE := Aside0.mk (show wc.heap.size ≤ gx from by rw [hgx]; exact HB2.out.size)
     have HNE := Aside0.mk (show p10 ≠ gx from by rw [hgx]; exact Nat.ne_of_lt HG2.out.lt)
     have n_ := Aside0.mk (below_then HB1.out HB1.out.size hb_); clear HB1; have HB1 := n_; clear n_
     have n_ := Aside0.mk (below_then HB2.out HB2.out.size hb_); clear HB2; have HB2 := n_; clear n_
     have n_ := Aside0.mk (HG2.out.below hb_); clear HG2; have HG2 := n_; clear n_
     have n_ := Aside0.mk (And.intro HTa.out.1 (Kd.C_below HTa.out.2 hb_)); clear HTa; have HTa := n_; clear n_
     have HBX := Aside0.mk hbox
     clear hbox hb_ hgx
     refine hK.out _ _ ((blk_cell (blk_below HP0.out HB1.out) 0).trans rfl) (fun hS_ => ?_)
     clear hK K
     refine norm_ (a' := ?_) ?_ ?_
     rotate_left
     (show Act.put _ (some 15) _ = _; simp only [Act.put, List.setIfInBounds_toArray, List.set_cons_zero, List.set_cons_succ, i64_w, i32_w]; rfl)
     refine one_ (i := 3) (N := some 98) (lB 11 271) rfl rfl (one_of HT_.out (by kernel_rfl)) (by decide) (fun K hK => ?_)
     refine goes_ Try.func10 (by kernel_rfl) rfl #[.agg #[.slice Ak key.length ck]] (by rfl) rfl rfl (by (try simp only [List.map_toArray, List.map_cons, List.map_nil]); first | done | rfl) ?_
     refine (HTOR.out _ HB1.out).mono ?_
     rintro e wb ⟨Xb, db, rfl, hRb, hb_⟩
     refine ⟨_, rfl, ?_⟩
     have n_ := Aside0.mk (below_then HB1.out HB1.out.size hb_); clear HB1; have HB1 := n_; clear n_
     have n_ := Aside0.mk (below_then HB2.out HB2.out.size hb_); clear HB2; have HB2 := n_; clear n_
     have n_ := Aside0.mk (HG2.out.below hb_); clear HG2; have HG2 := n_; clear n_
     have n_ := Aside0.mk (And.intro HTa.out.1 (Kd.C_below HTa.out.2 hb_)); clear HTa; have HTa := n_; clear n_
     have n_ := Aside0.mk (blk_below HBX.out hb_); clear HBX; have HBX := n_; clear n_
     have HTb := Aside0.mk (Kd.R_reads' hRb).2; clear hRb hb_
     refine hK.out _ _ ((blk_cell (blk_below HP0.out HB1.out) 0).trans rfl) (fun hS_ => ?_)
     clear hK K
     refine norm_ (a' := ?_) ?_ ?_
     rotate_left
     (show Act.put _ (some 98) _ = _; simp only [Act.put, List.setIfInBounds_toArray, List.set_cons_zero, List.set_cons_succ, i64_w, i32_w]; rfl)
     refine one_ (i := 4) (N := some 99) (lB 11 287) rfl rfl (one_of HT_.out (by kernel_rfl)) (by decide) (fun K hK => ?_)
     refine goes_ Try.func11 (by kernel_rfl) rfl #[.slice Xa G.length da, .agg #[.slice Xb key.length db]] (by rfl) rfl rfl (by (try simp only [List.map_toArray, List.map_cons, List.map_nil]); first | done | rfl) ?_
     refine (HIMPL.out _ Xa Xb da db HTa.out.2 HTa.out.1 HTb.out.2 HTb.out.1).mono ?_
     rintro e wv ⟨v_, rfl, hR_, hb_⟩
     obtain ⟨Xc, dc, rfl⟩ := Kd.R_slice hR_
     refine ⟨_, rfl, ?_⟩
     have n_ := Aside0.mk (below_then HB1.out HB1.out.size hb_); clear HB1; have HB1 := n_; clear n_
     have n_ := Aside0.mk (below_then HB2.out HB2.out.size hb_); clear HB2; have HB2 := n_; clear n_
     have n_ := Aside0.mk (HG2.out.below hb_); clear HG2; have HG2 := n_; clear n_
     have n_ := Aside0.mk (And.intro HTa.out.1 (Kd.C_below HTa.out.2 hb_)); clear HTa; have HTa := n_; clear n_
     have n_ := Aside0.mk (blk_below HBX.out hb_); clear HBX; have HBX := n_; clear n_
     have n_ := Aside0.mk (And.intro HTb.out.1 (Kd.C_below HTb.out.2 hb_)); clear HTb; have HTb := n_; clear n_
     have HRV := Aside0.mk hR_; clear hR_ hb_ HTa HTb
     refine hK.out _ _ ((blk_cell (blk_below HP0.out HB1.out) 0).trans rfl) (fun hS_ => ?_)
     clear hK K
     refine norm_ (a' := ?_) ?_ ?_
     rotate_left
     (show Act.put _ (some 99) _ = _; simp only [Act.put, List.setIfInBounds_toArray, List.set_cons_zero, List.set_cons_succ, i64_w, i32_w]; rfl)
     refine mL 5 287 319 (N := some 94) (v := ?_) (a' := ?_) HT_ HW_ rfl rfl (by kernel_rfl) (fun _ _ _ h => h) hS_ (by rfl) ?_ ?_ ?_; rotate_left 2; (rintro w' s0; go_simp; with_reducible rfl); (simp only [Act.put, List.setIfInBounds_toArray, List.set_cons_zero, List.set_cons_succ, i64_w, i32_w]; rfl)
     refine mL 6 319 383 (N := some 100) (v := ?_) (a' := ?_) HT_ HW_ rfl rfl (by kernel_rfl) (fun _ _ _ h => h) hS_ (by rfl) ?_ ?_ ?_; rotate_left 2; (rintro w' s0; go_simp; with_reducible rfl); (simp only [Act.put, List.setIfInBounds_toArray, List.set_cons_zero, List.set_cons_succ, i64_w, i32_w]; rfl)
     refine mL 7 383 511 (N := some 101) (v := ?_) (a' := ?_) HT_ HW_ rfl rfl (by kernel_rfl) (fun _ _ _ h => h) hS_ (by rfl) ?_ ?_ ?_; rotate_left 2; (rintro w' s0; go_simp; with_reducible rfl); (simp only [Act.put, List.setIfInBounds_toArray, List.set_cons_zero, List.set_cons_succ, i64_w, i32_w]; rfl)
     refine one_ (i := 9) (N := none) (lB 11 1023) rfl rfl (one_of HT_.out (by kernel_rfl)) (by decide) (fun K hK => ?_)
     have hgx_ := HBX.out
     obtain ⟨d0, d1, d2⟩ := cells3_ hgx_
     have f0 := blk_frozen hgx_ 0
     have f1 := blk_frozen hgx_ 1
     have f2 := blk_frozen hgx_ 2
     clear hgx_
     refine skip_ (w1 := (((wv.setCell ⟨gx, 0, none⟩ (.slice Xc r.1.length dc)).setCell ⟨gx, 1, none⟩ (.int .i64 r.2.1)).setCell ⟨gx, 2, none⟩ (.int .i64 r.2.2.1))) (by rfl) rfl (by first | (go_simp; done) | (go_simp; rfl)) ?_
     clear d0 d1 d2 f0 f1 f2
     have hbx_ := put3_blk HBX.out (.slice Xc r.1.length dc) (.int .i64 r.2.1) (.int .i64 r.2.2.1)
     have hrv_ := put3_R HRV.out HBX.out (by decide) (.slice Xc r.1.length dc) (.int .i64 r.2.1) (.int .i64 r.2.2.1)
     have n_ := Aside0.mk (put3_below HB1.out (Nat.le_trans HB12.out.size HGE.out) (.slice Xc r.1.length dc) (.int .i64 r.2.1) (.int .i64 r.2.2.1)); clear HB1; have HB1 := n_; clear n_
     have n_ := Aside0.mk (put3_below HB2.out HGE.out (.slice Xc r.1.length dc) (.int .i64 r.2.1) (.int .i64 r.2.2.1)); clear HB2; have HB2 := n_; clear n_
     have n_ := Aside0.mk (HG2.out.put3 HBX.out HNE.out (.slice Xc r.1.length dc) (.int .i64 r.2.1) (.int .i64 r.2.2.1)); clear HG2; have HG2 := n_; clear n_
     have HW := Aside0.mk (GBox.mk_ hbx_ hrv_)
     clear hbx_ hrv_ HBX HRV
     generalize (((wv.setCell ⟨gx, 0, none⟩ (.slice Xc r.1.length dc)).setCell ⟨gx, 1, none⟩ (.int .i64 r.2.1)).setCell ⟨gx, 2, none⟩ (.int .i64 r.2.2.1)) = wz at HW HB1 HB2 HG2 ⊢
     refine hK.out _ _ ((blk_cell (blk_below HP0.out HB1.out) 0).trans rfl) (fun hS_ => ?_)
     clear hK K
     refine mL 10 1023 2047 (N := some 16) (v := ?_) (a' := ?_) HT_ HW_ rfl rfl (by kernel_rfl) (fun _ _ _ h => h) hS_ (by rfl) ?_ ?_ ?_; rotate_left 2; (rintro w' s0; go_simp; with_reducible rfl); (simp only [Act.put, List.setIfInBounds_toArray, List.set_cons_zero, List.set_cons_succ, i64_w, i32_w]; rfl)
     refine mD HT_ (by kernel_rfl) ?_
     go_wp2_with fail
     go_meet
     case rel => exact ⟨gx, rfl, rfl, HB2, HW, HG2⟩
   ·refine box_step (by rfl) rfl (cs := #[.slice none 0 0, .int .i64 0, .int .i64 0]) (t := 30) (by first | (go_simp; done) | (go_simp; rfl)) (fun gx hgx wx hbox hb_ => ?_)
    have HGE := Aside0.mk (show wc.heap.size ≤ gx from by rw [hgx]; exact HB2.out.size)
    have HNE := Aside0.mk (show p10 ≠ gx from by rw [hgx]; exact Nat.ne_of_lt HG2.out.lt)
    have n_ := Aside0.mk (below_then HB1.out HB1.out.size hb_); clear HB1; have HB1 := n_; clear n_
    have n_ := Aside0.mk (below_then HB2.out HB2.out.size hb_); clear HB2; have HB2 := n_; clear n_
    have n_ := Aside0.mk (HG2.out.below hb_); clear HG2; have HG2 := n_; clear n_
    have HBX := Aside0.mk hbox
    clear hbox hb_ hgx
    refine hK.out _ _ ((blk_cell (blk_below HP0.out HB1.out) 0).trans rfl) (fun hS_ => ?_)
    clear hK K
    refine norm_ (a' := ?_) ?_ ?_
    rotate_left
    (show Act.put _ (some 15) _ = _; simp only [Act.put, List.setIfInBounds_toArray, List.set_cons_zero, List.set_cons_succ, i64_w, i32_w]; rfl)
    refine one_ (i := 1) (N := some 96) (lB 11 263) rfl rfl (one_of HT_.out (by kernel_rfl)) (by decide) (fun K hK => ?_)
    refine goes_ Try.func9 (by kernel_rfl) rfl #[.slice A l.length c] (by rfl) rfl rfl (by (try simp only [List.map_toArray, List.map_cons, List.map_nil]); first | done | rfl) ?_
    refine (HTO.out _ HB1.out).mono ?_
    rintro e wa ⟨Xa, da, rfl, hSa, hb_⟩
    refine ⟨_, rfl, ?_⟩
    have n_ := Aside0.mk (below_then HB1.out HB1.out.size hb_); clear HB1; have HB1 := n_; clear n_
    have n_ := Aside0.mk (below_then HB2.out HB2.out.size hb_); clear HB2; have HB2 := n_; clear n_
    have n_ := Aside0.mk (HG2.out.below hb_); clear HG2; have HG2 := n_; clear n_
    have n_ := Aside0.mk (blk_below HBX.out hb_); clear HBX; have HBX := n_; clear n_
    have HTa := Aside0.mk (Kd.S_reads' hSa).2; clear hSa hb_
    refine hK.out _ _ ((blk_cell (blk_below HP0.out HB1.out) 0).trans rfl) (fun hS_ => ?_)
    clear hK K
    refine norm_ (a' := ?_) ?_ ?_
    rotate_left
    (show Act.put _ (some 96) _ = _; simp only [Act.put, List.setIfInBounds_toArray, List.set_cons_zero, List.set_cons_succ, i64_w, i32_w]; rfl)
    refine one_ (i := 3) (N := some 98) (lB 11 271) rfl rfl (one_of HT_.out (by kernel_rfl)) (by decide) (fun K hK => ?_)
    refine goes_ Try.func10 (by kernel_rfl) rfl #[.agg #[.slice Ak key.length ck]] (by rfl) rfl rfl (by (try simp only [List.map_toArray, List.map_cons, List.map_nil]); first | done | rfl) ?_
    refine (HTOR.out _ HB1.out).mono ?_
    rintro e wb ⟨Xb, db, rfl, hRb, hb_⟩
    refine ⟨_, rfl, ?_⟩
    have n_ := Aside0.mk (below_then HB1.out HB1.out.size hb_); clear HB1; have HB1 := n_; clear n_
    have n_ := Aside0.mk (below_then HB2.out HB2.out.size hb_); clear HB2; have HB2 := n_; clear n_
    have n_ := Aside0.mk (HG2.out.below hb_); clear HG2; have HG2 := n_; clear n_
    have n_ := Aside0.mk (blk_below HBX.out hb_); clear HBX; have HBX := n_; clear n_
    have n_ := Aside0.mk (And.intro HTa.out.1 (Kd.C_below HTa.out.2 hb_)); clear HTa; have HTa := n_; clear n_
    have HTb := Aside0.mk (Kd.R_reads' hRb).2; clear hRb hb_
    refine hK.out _ _ ((blk_cell (blk_below HP0.out HB1.out) 0).trans rfl) (fun hS_ => ?_)
    clear hK K
    refine norm_ (a' := ?_) ?_ ?_
    rotate_left
    (show Act.put _ (some 98) _ = _; simp only [Act.put, List.setIfInBounds_toArray, List.set_cons_zero, List.set_cons_succ, i64_w, i32_w]; rfl)
    refine one_ (i := 4) (N := some 99) (lB 11 287) rfl rfl (one_of HT_.out (by kernel_rfl)) (by decide) (fun K hK => ?_)
    refine goes_ Try.func11 (by kernel_rfl) rfl #[.slice Xa G.length da, .agg #[.slice Xb key.length db]] (by rfl) rfl rfl (by (try simp only [List.map_toArray, List.map_cons, List.map_nil]); first | done | rfl) ?_
    refine (HIMPL.out _ Xa Xb da db HTa.out.2 HTa.out.1 HTb.out.2 HTb.out.1).mono ?_
    rintro e wv ⟨v_, rfl, hR_, hb_⟩
    obtain ⟨Xc, dc, rfl⟩ := Kd.R_slice hR_
    refine ⟨_, rfl, ?_⟩
    have n_ := Aside0.mk (below_then HB1.out HB1.out.size hb_); clear HB1; have HB1 := n_; clear n_
    have n_ := Aside0.mk (below_then HB2.out HB2.out.size hb_); clear HB2; have HB2 := n_; clear n_
    have n_ := Aside0.mk (HG2.out.below hb_); clear HG2; have HG2 := n_; clear n_
    have n_ := Aside0.mk (blk_below HBX.out hb_); clear HBX; have HBX := n_; clear n_
    have n_ := Aside0.mk (And.intro HTa.out.1 (Kd.C_below HTa.out.2 hb_)); clear HTa; have HTa := n_; clear n_
    have n_ := Aside0.mk (And.intro HTb.out.1 (Kd.C_below HTb.out.2 hb_)); clear HTb; have HTb := n_; clear n_
    have HRV := Aside0.mk hR_; clear hR_ hb_ HTa HTb
    refine hK.out _ _ ((blk_cell (blk_below HP0.out HB1.out) 0).trans rfl) (fun hS_ => ?_)
    clear hK K
    refine norm_ (a' := ?_) ?_ ?_
    rotate_left
    (show Act.put _ (some 99) _ = _; simp only [Act.put, List.setIfInBounds_toArray, List.set_cons_zero, List.set_cons_succ, i64_w, i32_w]; rfl)
    refine mL 5 287 319 (N := some 94) (v := ?_) (a' := ?_) HT_ HW_ rfl rfl (by kernel_rfl) (fun _ _ _ h => h) hS_ (by rfl) ?_ ?_ ?_; rotate_left 2; (rintro w' s0; go_simp; with_reducible rfl); (simp only [Act.put, List.setIfInBounds_toArray, List.set_cons_zero, List.set_cons_succ, i64_w, i32_w]; rfl)
    refine mL 6 319 383 (N := some 100) (v := ?_) (a' := ?_) HT_ HW_ rfl rfl (by kernel_rfl) (fun _ _ _ h => h) hS_ (by rfl) ?_ ?_ ?_; rotate_left 2; (rintro w' s0; go_simp; with_reducible rfl); (simp only [Act.put, List.setIfInBounds_toArray, List.set_cons_zero, List.set_cons_succ, i64_w, i32_w]; rfl)
    refine mL 7 383 511 (N := some 101) (v := ?_) (a' := ?_) HT_ HW_ rfl rfl (by kernel_rfl) (fun _ _ _ h => h) hS_ (by rfl) ?_ ?_ ?_; rotate_left 2; (rintro w' s0; go_simp; with_reducible rfl); (simp only [Act.put, List.setIfInBounds_toArray, List.set_cons_zero, List.set_cons_succ, i64_w, i32_w]; rfl)
    refine one_ (i := 9) (N := none) (lB 11 1023) rfl rfl (one_of HT_.out (by kernel_rfl)) (by decide) (fun K hK => ?_)
    have hgx_ := HBX.out
    obtain ⟨d0, d1, d2⟩ := cells3_ hgx_
    have f0 := blk_frozen hgx_ 0
    have f1 := blk_frozen hgx_ 1
    have f2 := blk_frozen hgx_ 2
    clear hgx_
    refine skip_ (w1 := (((wv.setCell ⟨gx, 0, none⟩ (.slice Xc r.1.length dc)).setCell ⟨gx, 1, none⟩ (.int .i64 r.2.1)).setCell ⟨gx, 2, none⟩ (.int .i64 r.2.2.1))) (by rfl) rfl (by first | (go_simp; done) | (go_simp; rfl)) ?_
    clear d0 d1 d2 f0 f1 f2
    have hbx_ := put3_blk HBX.out (.slice Xc r.1.length dc) (.int .i64 r.2.1) (.int .i64 r.2.2.1)
    have hrv_ := put3_R HRV.out HBX.out (by decide) (.slice Xc r.1.length dc) (.int .i64 r.2.1) (.int .i64 r.2.2.1)
    have n_ := Aside0.mk (put3_below HB1.out (Nat.le_trans HB12.out.size HGE.out) (.slice Xc r.1.length dc) (.int .i64 r.2.1) (.int .i64 r.2.2.1)); clear HB1; have HB1 := n_; clear n_
    have n_ := Aside0.mk (put3_below HB2.out HGE.out (.slice Xc r.1.length dc) (.int .i64 r.2.1) (.int .i64 r.2.2.1)); clear HB2; have HB2 := n_; clear n_
    have n_ := Aside0.mk (HG2.out.put3 HBX.out HNE.out (.slice Xc r.1.length dc) (.int .i64 r.2.1) (.int .i64 r.2.2.1)); clear HG2; have HG2 := n_; clear n_
    have HW := Aside0.mk (GBox.mk_ hbx_ hrv_)
    clear hbx_ hrv_ HBX HRV
    generalize (((wv.setCell ⟨gx, 0, none⟩ (.slice Xc r.1.length dc)).setCell ⟨gx, 1, none⟩ (.int .i64 r.2.1)).setCell ⟨gx, 2, none⟩ (.int .i64 r.2.2.1)) = wz at HW HB1 HB2 HG2 ⊢
    refine hK.out _ _ ((blk_cell (blk_below HP0.out HB1.out) 0).trans rfl) (fun hS_ => ?_)
    clear hK K
    refine mL 10 1023 2047 (N := some 16) (v := ?_) (a' := ?_) HT_ HW_ rfl rfl (by kernel_rfl) (fun _ _ _ h => h) hS_ (by rfl) ?_ ?_ ?_; rotate_left 2; (rintro w' s0; go_simp; with_reducible rfl); (simp only [Act.put, List.setIfInBounds_toArray, List.set_cons_zero, List.set_cons_succ, i64_w, i32_w]; rfl)
    refine mD HT_ (by kernel_rfl) ?_
    go_wp2_with fail
    go_meet
    case rel => exact ⟨gx, rfl, rfl, HB2, HW, HG2⟩
  case rest =>
   obtain ⟨p15, rfl, rfl, HB2, HH, HG2⟩ := hcut
   obtain ⟨A1, k1, A2, k2, hcA, hcB, heq⟩ := eq_gbox HH.out (HWQ.out.below HB2.out) HRL.out
   obtain ⟨a0, a1, a2⟩ := cells3_ hcA
   obtain ⟨b0, b1, b2⟩ := cells3_ hcB
   have HEQ := Aside0.mk heq
   clear hcA hcB heq
   go_wp2_with fail
   go_at_call 12; refine HEQ.out.mono ?_; rintro e wm ⟨rfl, hb_⟩
   clear a0 a1 a2 b0 b1 b2 HEQ
   have n_ := Aside0.mk (below_then HB2.out HB2.out.size hb_); clear HB2; have HB2 := n_; clear n_
   have n_ := Aside0.mk (HG2.out.below hb_); clear HG2; have HG2 := n_; clear n_
   clear hb_
   obtain ⟨A1, k1, hcA, hmk⟩ := held_gbox HG2.out.toBox HRL.out HKS.out.2.2
   obtain ⟨a0, a1, a2⟩ := cells3_ hcA
   have HMK := Aside0.mk hmk; clear hcA hmk
   go_wp2_with fail
   go_at_call 18; refine HMK.out.mono ?_; rintro e wn ⟨rfl, hb_⟩
   have n_ := Aside0.mk (below_then HB2.out HB2.out.size hb_); clear HB2; have HB2 := n_; clear n_
   have n_ := Aside0.mk (HG2.out.below hb_); clear HG2; have HG2 := n_; clear n_
   clear a0 a1 a2 HMK hb_
   go_wp2_with fail
   go_ret
   exact ⟨rfl, below_then (below_then HB0.out HB0.out.size HB12.out) (Nat.le_trans HB0.out.size HB12.out.size) HB2.out⟩
end Go.Proofs.Ytbnmkikifjidjaa.Q
end
section
/- What an argument reads as, laid open as a plain value, by its type's shape. -/
namespace Go.Proofs.Ytbnmkikifjidjaa.Q
open Go.RowKit Go.Proofs.YtbnmkikifjidjaaW.PrintWords
set_option linter.unusedVariables false
set_option linter.unusedSimpArgs false

/-- Whatever reads as type t is a value of kind d. -/
def Opens {α : Type} (P : Program) (W : World) (t : TypeId) (d : Kd α) : Prop :=
 ∀ {H : Type} (enc : TypeId × Value → H) (base : Nat) (spare : Nat → Bool) (held : Bool) (fuel : Nat) (cs : List Value) (x : DataW H × List MemPlace), DataW.trod enc P W base spare held fuel t cs = some x → ∃ y, d.K W y cs
/-- .. a struct's fields, from cell o on. -/
def OpensF {α : Type} (P : Program) (W : World) (o : Nat) (fs : List Field) (d : Kd α) : Prop :=
 ∀ {H : Type} (enc : TypeId × Value → H) (base : Nat) (spare : Nat → Bool) (held : Bool) (n : Nat) (cs : List Value), cs.length = d.sz →
  (∀ (i : Nat) (f : Field), fs[i]? = some f → ∃ x, DataW.trod enc P W base spare held n f.type ((cs.drop (f.offset - o)).take (P.cellsOf f.type)) = some x) → ∃ y, d.K W y cs
namespace Opens
variable {α β : Type} {P : Program} {W : World} {t e : TypeId} {d : Kd α} {k : IntKind}
theorem int (ht : P.underlying t = some (.int k)) : Opens P W t (Kd.int k) := by
 intro H enc base spare held fuel cs x h
 obtain ⟨n, rfl, _, _⟩ := DataW.trod_int ht h
 exact ⟨n, rfl⟩
theorem last {o : Nat} {f : Field} (ho : f.offset = o) (hc : P.cellsOf f.type = d.sz) (h : Opens P W f.type d) : OpensF P W o [f] d := by
 intro H enc base spare held n cs hl hf
 obtain ⟨x, hx⟩ := hf 0 f rfl
 rw [ho, Nat.sub_self, List.drop_zero, hc, ← hl, List.take_length] at hx
 exact h enc base spare held n cs x hx
theorem cons {d1 : Kd β} {o : Nat} {f : Field} {fs : List Field} (ho : f.offset = o) (hc : P.cellsOf f.type = d.sz) (h : Opens P W f.type d) (hr : OpensF P W (o + d.sz) fs d1) (hle : fs.all (fun g => decide (o + d.sz ≤ g.offset)) = true) : OpensF P W o (f :: fs) (Kd.pair d d1) := by
 intro H enc base spare held n cs hl hf
 have hl' : cs.length = d.sz + d1.sz := hl
 obtain ⟨x, hx⟩ := hf 0 f rfl
 rw [ho, Nat.sub_self, List.drop_zero, hc] at hx
 obtain ⟨y, hy⟩ := h enc base spare held n _ x hx
 obtain ⟨z, hz⟩ := hr enc base spare held n (cs.drop d.sz) (by rw [List.length_drop, hl']; omega) (fun i g hg => by
  obtain ⟨x, hx⟩ := hf (i + 1) g (by simpa using hg)
  have hm := List.all_eq_true.1 hle g (List.mem_of_getElem? hg)
  have hm := of_decide_eq_true hm
  rw [List.drop_drop, show d.sz + (g.offset - (o + d.sz)) = g.offset - o from by omega]
  exact ⟨x, hx⟩)
 exact ⟨(y, z), cs.take d.sz, cs.drop d.sz, (List.take_append_drop _ _).symm, hy, hz⟩
theorem struct {fs : Array Field} {f : β → α} {g : α → β} (hfg : ∀ x, f (g x) = x) (ht : P.underlying t = some (.struct fs)) (hc : P.cellsOf t = d.sz) (h : OpensF P W 0 fs.toList d) : Opens P W t (Kd.iso d f) := by
 intro H enc base spare held fuel cs x hx
 obtain ⟨xs, n, _, _, hl, hxl, hf⟩ := DataW.trod_struct ht hx
 obtain ⟨y, hy⟩ := h enc base spare held n cs (by rw [hl, hc]) (fun i f0 hf0 => by
  have hi : i < fs.size := by
   rw [← Array.length_toList]
   exact (List.getElem?_eq_some_iff.1 hf0).1
  have h2 := hf i f0 (by rw [← Array.getElem?_toList]; exact hf0)
  rw [List.getElem?_eq_getElem (by omega)] at h2
  exact ⟨_, by rw [Nat.sub_zero]; exact h2⟩)
 exact ⟨g y, by show d.K W (f (g y)) cs; rw [hfg]; exact hy⟩
theorem choose_list {R : Nat → α → Prop} : ∀ (n : Nat), (∀ i, i < n → ∃ y, R i y) → ∃ ys : List α, ys.length = n ∧ ∀ i y, ys[i]? = some y → R i y
 | 0, _ => ⟨[], rfl, by simp⟩
 | n + 1, h => by
  obtain ⟨ys, hl, hy⟩ := choose_list n (fun i hi => h i (by omega))
  obtain ⟨z, hz⟩ := h n (by omega)
  refine ⟨ys ++ [z], by simp [hl], fun i y hiy => ?_⟩
  by_cases hi : i < n
  ·rw [List.getElem?_append_left (by omega)] at hiy
   exact hy i y hiy
  ·have hi2 : i < n + 1 := by have := (List.getElem?_eq_some_iff.1 hiy).1; simp [hl] at this; omega
   have : i = n := by omega
   subst this
   rw [List.getElem?_append_right (by omega), hl, Nat.sub_self] at hiy
   obtain rfl : z = y := by simpa using hiy
   exact hz
/-- A slice's value and what it reads as. -/
theorem row (ht : P.underlying t = some (.slice e)) (hc : P.cellsOf e = d.sz) (he : Opens P W e d) {H : Type} {enc : TypeId × Value → H} {base : Nat} {spare : Nat → Bool} {held : Bool} {fuel : Nat} {cs : List Value} {x : DataW H × List MemPlace} (h : DataW.trod enc P W base spare held fuel t cs = some x) :
  ∃ (A : Option Addr) (c : Nat) (ys : List α), cs = [.slice A ys.length c] ∧ ys.length ≤ c ∧ c ≤ maxLen ∧ d.C W A ys.length ys := by
 rcases Go.Deep.open_slice ht h with ⟨rfl, _⟩ | ⟨a, len, cap, m, n, D, Pl, rfl, hb, hl, hm, hmm, rfl, hx⟩
 ·exact ⟨none, 0, [], rfl, Nat.le_refl _, Nat.zero_le _, rfl, by simp, fun h => absurd h (by simp)⟩
 ·have hlm : len ≤ m := by rw [hmm]; split <;> omega
  obtain ⟨ys, hyl, hys⟩ := choose_list (R := fun i y => ∃ c : List Value, c.length = d.sz ∧ d.K W y c ∧ ∀ j u, c[j]? = some u → W.cell? (a.add (i * d.sz + j)) = some u) len (fun i hi => by
   obtain ⟨cs', h1, h2⟩ := hx i (by omega)
   obtain ⟨_, hlen, hcell⟩ := World.cells?_some h1
   obtain ⟨y, hy⟩ := he enc base spare held n cs' _ h2
   refine ⟨y, cs', by rw [hlen, hc], hy, fun j u hu => ?_⟩
   have hj := (List.getElem?_eq_some_iff.1 hu).1
   have h3 := hcell j (by omega)
   rw [Go.Deep.add_add, hc] at h3
   rw [h3, hu])
  subst hyl
  refine ⟨some a, cap, ys, rfl, hl, hm, rfl, by simp only [maxLen] at hm; omega, fun _ => ⟨a, rfl, fun j p hj => hys j p hj⟩⟩
theorem slice (ht : P.underlying t = some (.slice e)) (hc : P.cellsOf e = d.sz) (he : Opens P W e d) : Opens P W t (Kd.slice e d) := by
 intro H enc base spare held fuel cs x h
 obtain ⟨A, c, ys, rfl, hl, _, hr⟩ := row ht hc he h
 exact ⟨ys, A, c, rfl, hl, hr⟩
end Opens
end Go.Proofs.Ytbnmkikifjidjaa.Q
end
section
/- Whatever the input, FnExactGroupFor returns true, and its arguments read as they did. No condition. -/
namespace Go.Proofs.Ytbnmkikifjidjaa.Q
open Go.ChangeShapes Go.WideShapes Go.ChangeAt Go.RowKit Go.Proofs.YtbnmkikifjidjaaW.PrintWords
set_option linter.unusedVariables false
theorem opens25 (W : World) : Opens Try.prog W 25 k25 :=
 Opens.struct (g := fun x => ⟨x⟩) (fun _ => rfl) Try.underlying25 (by kernel_rfl) (Opens.last rfl (by kernel_rfl) (Opens.slice (by kernel_rfl) (by kernel_rfl) (Opens.int (by kernel_rfl))))
theorem opens75 (W : World) : Opens Try.prog W 75 k75 :=
 Opens.struct (g := fun x => ⟨x.1, x.2.1, x.2.2⟩) (fun _ => rfl) Try.underlying75 (by kernel_rfl)
  (Opens.cons rfl (by kernel_rfl) (opens25 W) (Opens.cons rfl (by kernel_rfl) (Opens.int (by kernel_rfl)) (Opens.last rfl (by kernel_rfl) (Opens.int (by kernel_rfl))) (by decide)) (by decide))
theorem own : ownKnob Try.prog.godebug = none := by kernel_rfl
theorem laidOut : laidOutB Try.prog = true := by kernel_rfl
set_option maxRecDepth 100000 in
theorem lifted (os : Os) (started : os.Started) (H : Type) (enc : TypeId × Value → H) :
  ReturnsInHanded {} Try.checked os 3 .any (Rows.fnExactGroupForSpec.pre6 enc Try.prog Try.f3 Rows.fnExactGroupForRow.domain false) (Rows.fnExactGroupForSpec.post enc Try.prog Try.f3 false true false false) := by
 refine returnsInHanded_of_change_sized (C := Try.checked) own started (by kernel_rfl) Try.func3
  (ChangeSpec.witness6 (enc := enc) (C := Try.checked) false ⟨#[], #[.slice none 0 0, .agg #[.slice none 0 0]], []⟩ 8 (by kernel_rfl) (by kernel_rfl) (by kernel_rfl) (by kernel_rfl)) ?_
 intro W base args ds gs before hval0 hW hcnd hsz0 _
 have hval : ∀ (j : Nat) t v, Try.f3.params[j]? = some t → args[j]? = some v → Value.okWide Try.prog W .any base t v := hval0
 have hW' := hW
 obtain ⟨p, q, hA0, hV, rfl, hfz, hnd⟩ := hW
 have hA : DataW.TrodAll enc Try.prog W 0 (fun _ => true) true Try.f3.params.toList args.toList ds p := hA0
 rw [Try.params3] at hA hval
 obtain ⟨v0, vs0, d0, ds0, p0, q0, hargs, rfl, rfl, h0, r0⟩ := trodAll_cons hA
 obtain ⟨v1, vs1, d1, ds1, p1, q1, hargs1, rfl, rfl, h1, r1⟩ := trodAll_cons r0
 obtain ⟨rfl, rfl, rfl⟩ := trodAll_nil r1
 obtain rfl : args = #[v0, v1] := by cases args; simp_all
 obtain ⟨rfl, rfl⟩ := trodVars_none hV
 obtain ⟨a0, len0, cap0, rfl⟩ := okWide_slice Try.underlying22 (hval 0 22 v0 rfl rfl)
 obtain ⟨cs, rfl, _⟩ := okWide_struct Try.underlying25 (hval 1 25 v1 rfl rfl)
 have k0 := h0
 have k1 := h1
 have lt0 : ∀ x ∈ p0, x.block < W.heap.size := by obtain ⟨m, hm⟩ := k0; exact DataW.trod_lt m _ _ _ hm
 have lt1 : ∀ x ∈ p1, x.block < W.heap.size := by obtain ⟨m, hm⟩ := k1; exact DataW.trod_lt m _ _ _ hm
 obtain ⟨l0, hl0, hc0, hr0⟩ : ∃ l : List S75, len0 = l.length ∧ l.length ≤ cap0 ∧ Kd.C k75 W a0 l.length l := by
  obtain ⟨fuel, hf⟩ := h0
  obtain ⟨A, c, ys, hcs, hl, _, hr⟩ := Opens.row Try.underlying22 (by kernel_rfl) (opens75 W) hf
  simp [Value.cells] at hcs
  obtain ⟨rfl, rfl, rfl⟩ := hcs
  exact ⟨ys, rfl, hl, hr⟩
 subst hl0
 obtain ⟨A1, c1, x1, rfl, hl1, hr1⟩ : ∃ A1 c1, ∃ x : List Int, cs = #[.slice A1 x.length c1] ∧ x.length ≤ c1 ∧ Kd.C (Kd.int .i64) W A1 x.length x := by
  obtain ⟨fuel, hf⟩ := h1
  obtain ⟨x, A1, c1, e1, l1, r1⟩ := opens25 W enc 0 (fun _ => true) true fuel _ _ hf
  refine ⟨A1, c1, x.f0, ?_, l1, r1⟩
  have e2 : cs.toList = _ := e1
  cases cs
  simpa using e2
 clear hA0 hval0 hsz0
 refine (law_groupfor a0 A1 cap0 c1 l0 x1 W hr0 hc0 hr1 hl1).mono fun e W' ⟨he, bel⟩ => ?_
 subst he
 exact ⟨_, rfl, _, _, _, [], _, [], hW', trodAll_mk1 (shut_bool Try.underlying4 _), (trodAll_cons_mk (Below.trod laidOut (by kernel_rfl) (of_decide_eq_true (by kernel_rfl)) k0 bel lt0) (trodAll_cons_mk (Below.trod laidOut (by kernel_rfl) (of_decide_eq_true (by kernel_rfl)) k1 bel lt1) trodAll_mk0)), rfl, bel.frame _, fun h => by cases h⟩
theorem over : Rows.fnExactGroupForRow.holds Try.pinned (OpenSpec.ofChange Rows.fnExactGroupForSpec) :=
 OpenClaim.holds_of_wide 3 Try.f3 rfl rfl rfl rfl rfl rfl rfl ⟨rfl, rfl, rfl, rfl, rfl⟩ rfl rfl rfl rfl rfl (by kernel_rfl) Try.func3 (by kernel_rfl)
  (of_decide_eq_true (by kernel_rfl)) (by unfold Func.isWrapper; first | (rw [if_pos (by decide +kernel)]; kernel_rfl) | (rw [if_neg (by decide +kernel)]; exact ⟨rfl, rfl⟩))
  (fun os started H enc _ => lifted os started H enc)
end Go.Proofs.Ytbnmkikifjidjaa.Q
namespace Go.Proofs.Ytbnmkikifjidjaa
/-- The row, under a short name. -/
theorem fnExactGroupFor_holds : Rows.FnExactGroupForSaid := Q.over
end Go.Proofs.Ytbnmkikifjidjaa
end
