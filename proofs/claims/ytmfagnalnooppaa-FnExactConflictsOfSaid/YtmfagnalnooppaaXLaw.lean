/- The law's own walk: on every list of steps it answers true, and leaves all that was there as it was. -/
import Derived.Test.YtmfagnalnooppaaXCall
import Derived.Test.YtmfagnalnooppaaQLawsHeldIntSS
namespace Go.Proofs.Ytmfagnalnooppaa.Q
open Go.RowKit Go.Proofs.YtmfagnalnooppaaW.PrintWords Go.Proofs.YtmfagnalnooppaaW.PrintLast
set_option linter.unusedVariables false
set_option linter.unusedSimpArgs false

set_option maxHeartbeats 4000000 in
theorem law_calls (A : Option Addr) (c : Nat) (l : List S39) (w : World) (hr : Kd.C k39 w A l.length l) (hcap : l.length ≤ c) :
    Calls Try.prog 3 #[.slice A l.length c] w fun e w' => e = .returned (.bool true) ∧ Below w.heap.size w w' := by
  have hbig : l.length ≤ 9223372036854775807 := hr.2.1
  have HSZ := Aside0.mk (laws_szStepS.calls A c l 1048576 _ w hr hcap (sz_f l hbig))
  by_cases hle : l.length ≤ 1048576
  · rw [if_pos hle] at HSZ
    have hneg : decide (1048576 - (l.length : Int) < 0) = false := decide_eq_false (by omega)
    have HTO : ∀ W, Below w.heap.size w W → Calls Try.prog 6 #[.slice A l.length c] W fun e w' => ∃ v0_ : Value, e = .returned (v0_) ∧ Kd.R k37 37 w' W.heap.size (fun _ => True) v0_ (l.map conv) ∧ Below W.heap.size W w' := fun W hb => laws_toStepS.calls _ A c l _ W (Kd.C_below hr hb) hcap (to_f l (by omega))
    have HTO := Aside0.mk HTO
    clear hr
    have hm : (l.map conv).length = l.length := List.length_map _
    generalize l.map conv = m at HTO hm
    obtain ⟨hs6, hs36⟩ := conf_sizes m
    have HSP : ∀ W A2 c2, Kd.C k37 W A2 m.length m → m.length ≤ c2 → Calls Try.prog 5 #[.slice A2 m.length c2] W fun e w' => ∃ v, e = .returned (.tuple #[v, .bool (conflictsOfB m).2]) ∧ Kd.R (Kd.slice 3 (Kd.int .i64)) 43 w' W.heap.size (fun _ => True) v (conflictsOfB m).1 ∧ Below W.heap.size W w' := fun W A2 c2 h hc => specConflictsOf_calls A2 c2 m W h hc (by omega)
    have HIM : ∀ W A2 c2, Kd.C k37 W A2 m.length m → m.length ≤ c2 → Calls Try.prog 7 #[.slice A2 m.length c2] W fun e w' => ∃ v, e = .returned (.tuple #[v, .bool (conflictsOfB m).2]) ∧ Kd.S (Kd.slice 3 (Kd.int .i64)) 43 w' W.heap.size (fun _ => True) v (conflictsOfB m).1 ∧ Below W.heap.size W w' := fun W A2 c2 h hc => conflictsOf_calls A2 c2 m W h hc
    generalize (conflictsOfB m).1 = S at HSP HIM hs6 hs36
    generalize (conflictsOfB m).2 = b at HSP HIM
    have HSP := Aside0.mk HSP
    have HIM := Aside0.mk HIM
    have HE : ∀ W A2 c2 A3 c3, Kd.C (Kd.slice 3 (Kd.int .i64)) W A2 S.length S → S.length ≤ c2 → Kd.C (Kd.slice 3 (Kd.int .i64)) W A3 S.length S → S.length ≤ c3 → Calls Try.prog 8 #[.slice A2 S.length c2, .slice A3 S.length c3] W fun e w' => e = .returned (.bool true) ∧ Drawn0 W w' := fun W A2 c2 A3 c3 h1 h2 h3 h4 => laws_eqIntSS.calls _ A2 c2 S A3 c3 S true W h1 h2 h3 h4 (eqss_f S (by omega) (by omega))
    have HE := Aside0.mk HE
    have HM := Aside0.mk hm
    clear hm
    go_enter Try.func3, Try.ntmps3
    go_wp2_with fail
    go_at_call 4; refine HSZ.out.mono ?_; rintro e w1 ⟨rfl, hd1⟩
    have HB1 := Aside0.mk hd1.below; clear hd1
    go_wp2_with fail
    go_at_call 6; refine (HTO.out w1 HB1.out).mono ?_; rintro e w2 ⟨v2, rfl, hv2, hb2⟩
    obtain ⟨A2, c2, rfl, hc2, hC2⟩ := Kd.R_reads hv2
    have HB2 := Aside0.mk (below_then HB1.out HB1.out.size hb2); have HC2 := Aside0.mk (And.intro hc2 hC2); clear hc2 hv2 hb2 hC2
    go_wp2_with fail
    go_at_call 5; refine (HSP.out w2 A2 c2 HC2.out.2 HC2.out.1).mono ?_; rintro e w3 ⟨v3, rfl, hv3, hb3⟩
    obtain ⟨A3, c3, rfl, hc3, hC3⟩ := Kd.R_reads hv3
    have HB3 := Aside0.mk (below_then HB2.out HB2.out.size hb3); have HC3 := Aside0.mk (And.intro hc3 hC3); clear hc3 hv3 hb3 hC3
    go_wp2_with fail
    go_at_call 6; refine (HTO.out w3 HB3.out).mono ?_; rintro e w4 ⟨v4, rfl, hv4, hb4⟩
    obtain ⟨A4, c4, rfl, hc4, hC4⟩ := Kd.R_reads hv4
    have HR4 := Aside0.mk hv4; have HB4 := Aside0.mk hb4; have HC4 := Aside0.mk (And.intro hc4 hC4); clear hc4 hv4 hb4 hC4
    go_wp2_with fail
    go_at_call 7; refine (HIM.out w4 A4 c4 HC4.out.2 HC4.out.1).mono ?_; rintro e w5 ⟨v5, rfl, hv5, hb5⟩
    obtain ⟨A5, c5, rfl, hc5, hC5⟩ := Kd.R_reads (Kd.S_R hv5)
    have HR5 := Aside0.mk hv5; have HB5 := Aside0.mk hb5; have HC5 := Aside0.mk (And.intro hc5 hC5); clear hc5 hv5 hb5 hC5
    go_wp2_with fail
    go_at_call 8; refine (HE.out w5 A5 c5 A3 c3 HC5.out.2 HC5.out.1 (Kd.C_below (Kd.C_below HC3.out.2 HB4.out) HB5.out) HC3.out.1).mono ?_; rintro e w6 ⟨rfl, hd6⟩
    have HB6 := Aside0.mk hd6.below; clear hd6
    go_wp2_with fail
    go_at_call 6; refine (HTO.out w6 (below_then (below_then (below_then HB3.out HB3.out.size HB4.out) (Nat.le_trans HB3.out.size HB4.out.size) HB5.out) (Nat.le_trans HB3.out.size (Nat.le_trans HB4.out.size HB5.out.size)) HB6.out)).mono ?_; rintro e w7 ⟨v7, rfl, hv7, hb7⟩
    obtain ⟨A7, c7, rfl, hc7, hC7⟩ := Kd.R_reads hv7
    have HB7 := Aside0.mk hb7; have HC7 := Aside0.mk (And.intro hc7 hC7); clear hc7 hv7 hb7 hC7
    go_wp2_with fail
    go_at_call 9; refine (laws_eqStepS.calls _ A4 c4 m A7 c7 m true w7 (Kd.C_below (Kd.C_below (Kd.C_below HC4.out.2 HB5.out) HB6.out) HB7.out) HC4.out.1 HC7.out.2 HC7.out.1 (eqsteps_f m (by have := HM.out; omega))).mono ?_; rintro e w8 ⟨rfl, hb8⟩
    have HB8 := Aside0.mk hb8; clear hb8
    go_wp2_with fail
    have HB48 : Aside0 (Below w4.heap.size w4 w8) := ⟨below_then (below_then (below_then HB5.out HB5.out.size HB6.out) (Nat.le_trans HB5.out.size HB6.out.size) HB7.out) (Nat.le_trans HB5.out.size (Nat.le_trans HB6.out.size HB7.out.size)) HB8.out⟩
    obtain ⟨r2, hmk⟩ := markstep_f m (by have := HM.out; omega)
    have HMK := Aside0.mk (laws_markStepS.calls _ (fun k => w3.heap.size ≤ k ∧ k < w4.heap.size) _ m 1 _ r2 w3 w8 (below_then HB4.out HB4.out.size HB48.out) (Kd.R_below (Kd.R_mono (Kd.R_bound HR4.out) (fun k hk => ⟨hk.2.1, hk.2.2.1⟩)) HB48.out) hmk)
    clear hmk
    go_at_call 10; refine HMK.out.mono ?_; rintro e w9 ⟨rfl, hr9, hb9, hk9⟩
    have HB9 := Aside0.mk hb9; have HK9 := Aside0.mk hk9
    clear hb9 hk9 hr9
    go_wp2_with fail
    have HX9 : Aside0 ((KX.slice 3 KX.int).Row 43 w9 (fun k => w4.heap.size ≤ k ∧ k < w5.heap.size) (.slice A5 S.length c5) S) := by
      have h5 := KX.Row_of_S (d := KX.slice 3 KX.int) (fun W b o x cs ⟨v, hcs, h⟩ => ⟨v, hcs, KX.Row_of_R (fun _ _ _ _ _ _ h => h) h⟩) (Kd.S_mono (Kd.S_bound HR5.out) (fun k hk => (⟨hk.2.1, hk.2.2.1⟩ : w4.heap.size ≤ k ∧ k < w5.heap.size)))
      have h8 := KX.Row_below h5 (below_then (below_then HB6.out HB6.out.size HB7.out) (Nat.le_trans HB6.out.size HB7.out.size) HB8.out)
      exact ⟨KX.Row_move (fun k hk hlt => HK9.out.2 k hlt (by have := HK9; rintro ⟨h1, h2⟩; have := hk.1; omega)) h8⟩
    have hC9 := KX.Row_reads HX9.out
    obtain ⟨A9, c9, hv9, _, hC9⟩ := hC9
    injection hv9 with hA9 _ hc9
    subst hA9; subst hc9
    have HC9 := Aside0.mk hC9; clear hC9
    have h45 := HB5.out.size
    have H58 := Aside0.mk (below_then (below_then HB6.out HB6.out.size HB7.out) (Nat.le_trans HB6.out.size HB7.out.size) HB8.out)
    go_at_call 8; refine (HE.out w9 A5 c5 A3 c3 HC9.out HC5.out.1 (Kd.C_below HC3.out.2 HB9.out) HC3.out.1).mono ?_; rintro e w10 ⟨rfl, hd10⟩
    have HB10 := Aside0.mk hd10.below; clear hd10
    go_wp2_with fail
    have h11 := markIntSS_X _ S 1 _ w10 (KX.Row_below HX9.out HB10.out) (by omega) (by omega) (by omega)
    go_at_call 11; refine h11.mono ?_; rintro e w11 ⟨rfl, hr11, hw11⟩
    have HR11 := Aside0.mk hr11; have HW11 := Aside0.mk hw11; clear hr11 hw11 h11
    go_wp2_with fail
    have h12 : Calls Try.prog 12 #[.slice A5 S.length c5, .int .i64 1] w11 fun e w' => e = .returned (.int .i64 (1 + (lens S : Int))) ∧ Drawn0 w11 w' := by
      obtain ⟨A9, c9, hv9, hc9, hC9⟩ := KX.Row_reads HR11.out
      injection hv9 with hA9 _ hcc
      subst hA9; subst hcc
      have := laws_heldIntSS.calls _ A5 c5 (mkIntss 1 S) 1 _ w11 hC9 hc9 (heldss_f 1 S (by omega) (by omega) (by omega))
      rwa [mkIntss_length] at this
    go_at_call 12; refine h12.mono ?_; rintro e w12 ⟨rfl, hd12⟩
    have HB12 := Aside0.mk hd12.below; clear hd12 h12
    go_wp2_with fail
    have H312 : Aside0 (Below w3.heap.size w3 w12) := by
      have h10 := below_then HB9.out HB9.out.size HB10.out
      have h11 := Wrote.below h10 HW11.out (fun k hk => by have := HB4.out.size; omega) h10.size
      exact ⟨below_then h11 h11.size HB12.out⟩
    go_at_call 6; refine (HTO.out w12 (below_then HB3.out HB3.out.size H312.out)).mono ?_; rintro e w13 ⟨v13, rfl, hv13, hb13⟩
    obtain ⟨A13, c13, rfl, hc13, hC13⟩ := Kd.R_reads hv13
    have HB13 := Aside0.mk hb13; have HC13 := Aside0.mk (And.intro hc13 hC13); clear hc13 hv13 hb13 hC13
    go_wp2_with fail
    go_at_call 7; refine (HIM.out w13 A13 c13 HC13.out.2 HC13.out.1).mono ?_; rintro e w14 ⟨v14, rfl, hv14, hb14⟩
    obtain ⟨A14, c14, rfl, hc14, hC14⟩ := Kd.R_reads (Kd.S_R hv14)
    have HB14 := Aside0.mk hb14; have HC14 := Aside0.mk (And.intro hc14 hC14); clear hc14 hv14 hb14 hC14
    have H314 : Aside0 (Below w3.heap.size w3 w14) := ⟨below_then (below_then H312.out H312.out.size HB13.out) (Nat.le_trans H312.out.size HB13.out.size) HB14.out⟩
    go_wp2_with fail
    go_at_call 8; refine (HE.out w14 A14 c14 A3 c3 HC14.out.2 HC14.out.1 (Kd.C_below HC3.out.2 H314.out) HC3.out.1).mono ?_; rintro e w15 ⟨rfl, hd15⟩
    have HB15 := Aside0.mk hd15.below; clear hd15
    go_wp2_with fail
    have h16 : Calls Try.prog 12 #[.slice A5 S.length c5, .int .i64 1] w15 fun e w' => e = .returned (.int .i64 (1 + (lens S : Int))) ∧ Drawn0 w15 w' := by
      obtain ⟨A9, c9, hv9, hc9, hC9⟩ := KX.Row_reads (KX.Row_below (KX.Row_below (KX.Row_below (KX.Row_below HR11.out HB12.out) HB13.out) HB14.out) HB15.out)
      injection hv9 with hA9 _ hcc
      subst hA9; subst hcc
      have := laws_heldIntSS.calls _ A5 c5 (mkIntss 1 S) 1 _ w15 hC9 hc9 (heldss_f 1 S (by omega) (by omega) (by omega))
      rwa [mkIntss_length] at this
    go_at_call 12; refine h16.mono ?_; rintro e w16 ⟨rfl, hd16⟩
    have HB16 := Aside0.mk hd16.below; clear hd16 h16
    go_wp2_with fail
    go_ret
    have h15 := below_then H314.out H314.out.size HB15.out
    have h16 := below_then h15 h15.size HB16.out
    exact ⟨rfl, below_then HB3.out HB3.out.size h16⟩
  · rw [if_neg hle] at HSZ
    clear hr
    go_enter Try.func3, Try.ntmps3
    go_wp2_with fail
    go_at_call 4; refine HSZ.out.mono ?_; rintro e w1 ⟨rfl, hd1⟩
    have HB1 := Aside0.mk hd1.below; clear hd1
    go_wp2_with fail
    go_ret
    exact ⟨rfl, HB1.out⟩
end Go.Proofs.Ytmfagnalnooppaa.Q
