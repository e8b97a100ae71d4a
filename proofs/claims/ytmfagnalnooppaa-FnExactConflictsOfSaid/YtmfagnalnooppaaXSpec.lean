/- spec.l13Conflicts: the lists that it answers are those of impl.conflicts' sets. -/
import Derived.Test.YtmfagnalnooppaaXPut
import Derived.Test.YtmfagnalnooppaaXOf
import Derived.Test.YtmfagnalnooppaaQSpecL13Clash
import Derived.Test.YtmfagnalnooppaaQSpecGoodSteps
import Derived.Deep.RegionLaw
namespace Go.Proofs.Ytmfagnalnooppaa.Q
open Go.RowKit Go.Proofs.YtmfagnalnooppaaW.PrintWords Go.Proofs.YtmfagnalnooppaaW.PrintLast
set_option linter.unusedVariables false
set_option linter.unusedSimpArgs false

theorem put_bits_ (m b : Nat) (hm : m < 64) (hb : b < 6) : putB (bitsTo m 6) (b : Int) = bitsTo (m ||| 2 ^ b) 6 := by
  have h : ∀ m : Fin 64, ∀ b : Fin 6, putB (bitsTo m.val 6) (b.val : Int) = bitsTo (m.val ||| 2 ^ b.val) 6 := by decide +kernel
  exact h ⟨m, hm⟩ ⟨b, hb⟩
theorem made_six : madeCells #[Value.slice none 0 0] 6 = #[Value.slice none 0 0, .slice none 0 0, .slice none 0 0, .slice none 0 0, .slice none 0 0, .slice none 0 0] := by
  apply Array.ext'
  simp [madeCells, Nat.mod_one, List.range_succ]
def rowOf (V : Nat → Value) : Array Value := #[V 0, V 1, V 2, V 3, V 4, V 5]
theorem row_get (V : Nat → Value) (t : Nat) (h : t < 6) : (rowOf V)[t]? = some (V t) := by
  have h : t = 0 ∨ t = 1 ∨ t = 2 ∨ t = 3 ∨ t = 4 ∨ t = 5 := by omega
  rcases h with rfl | rfl | rfl | rfl | rfl | rfl <;> rfl
theorem row_set (V : Nat → Value) (t : Nat) (v : Value) : (rowOf V).setIfInBounds t v = rowOf fun s => if s = t then v else V s := by
  apply Array.ext_getElem?
  intro i
  rw [Array.getElem?_setIfInBounds]
  by_cases h6 : i < 6
  · rw [row_get _ i h6]
    by_cases h : t = i
    · subst h
      have hs : t < (rowOf V).size := h6
      rw [if_pos rfl, if_pos hs, row_get _ t h6, if_pos rfl]
    · have h' : ¬ i = t := fun e => h e.symm
      rw [if_neg h, row_get _ i h6, if_neg h']
  · have e1 : ∀ U : Nat → Value, (rowOf U)[i]? = none := fun U => by simp [rowOf]; omega
    rw [e1, e1]
    by_cases h : t = i
    · subst h; simp [rowOf, h6]
    · simp [h]
/-- The six rows. -/
def Rows6 (w : World) (base : Nat) (V : Nat → Value) (M : Nat → Nat) : Prop := ∀ t, t < 6 → Kd.R (Kd.int .i64) 3 w base (fun _ => True) (V t) (bitsTo (M t) 6)
theorem Rows6.below {w W : World} {base : Nat} {V : Nat → Value} {M : Nat → Nat} (h : Rows6 w base V M) (hb : Below w.heap.size w W) : Rows6 W base V M := fun t ht => Kd.R_below (h t ht) hb
theorem clash2_f (x y : S37) : spec_l13Clash.f x.f0 x.f1 x.f2 y.f0 y.f1 y.f2 = some (clashB x y) := clashB_f x y
theorem l7Put_any (V : Value) (m b : Nat) (hm : m < 64) (hb : b < 6) (w : World) (base : Nat) (hbase : base ≤ w.heap.size) (hr : Kd.R (Kd.int .i64) 3 w base (fun _ => True) V (bitsTo m 6)) :
    Calls Try.prog 25 #[V, .int .i64 (b : Int)] w fun e w' => ∃ v, e = .returned v ∧ Kd.R (Kd.int .i64) 3 w' base (fun _ => True) v (bitsTo (m ||| 2 ^ b) 6) ∧ Below w.heap.size w w' := by
  obtain ⟨A, c, rfl, hc, hC⟩ := Kd.R_reads hr
  have hlen := bitsTo_length m 6
  cases h : (bitsTo m 6).contains (b : Int) with
  | true =>
    refine (l7Put_has A c (bitsTo m 6) b w hC hc h).mono fun e w' ⟨he, hb'⟩ => ⟨_, he, ?_, hb'⟩
    have e2 := put_bits_ m b hm hb
    unfold putB at e2
    rw [if_pos h] at e2
    rw [← e2]
    exact Kd.R_below hr hb'
  | false =>
    refine (l7Put_new A c (bitsTo m 6) b w hC hc h (by omega)).mono fun e w' ⟨v, he, hR, hb'⟩ => ⟨v, he, ?_, hb'⟩
    rw [← put_bits_ m b hm hb]
    exact Kd.R_lower hR hbase

set_option maxHeartbeats 4000000 in
theorem l13Conflicts_calls (A : Option Addr) (c : Nat) (l : List S37) (w : World) (hr : Kd.C k37 w A l.length l) (hcap : l.length ≤ c) (hok : ∀ x ∈ l, okStep x) :
    Calls Try.prog 14 #[.slice A l.length c] w fun e w' => ∃ v, e = .returned v ∧ Kd.R (Kd.slice 3 (Kd.int .i64)) 43 w' w.heap.size (fun _ => True) v (setsOf (confs (fun _ => 0) l) 6) ∧ Below w.heap.size w w' := by
  have hbig : l.length ≤ 9223372036854775807 := hr.2.1
  have HR := Aside0.mk hr
  have HOK := Aside0.mk hok
  clear hr hok
  go_enter Try.func14, Try.ntmps14
  have hmk : ∀ W : World, (Instr.makeSlice 24 (.int .i64 6) (.int .i64 6)).run Try.prog W = .ok (.slice (some ⟨W.heap.size, 0, none⟩) 6 6) (W.alloc (.cells (rowOf fun _ => .slice none 0 0) 43)) := fun W => (run_make_row' (P := Try.prog) 24 43 (.slice none 0 0) 24 Try.underlying24 info43 rfl .i64 .i64 6 (by omega) (by omega) W).trans (by rw [show madeCells #[Value.slice none 0 0] 6 = rowOf fun _ => .slice none 0 0 from made_six])
  go_wp2_with fail
  go_loopg [11] l.length (fun gg v11 wr => ∃ kk : Nat, kk ≤ l.length ∧ l.length - kk ≤ gg ∧ v11 = .int .i64 kk ∧ Aside0 (∃ (M : Nat → Nat) (V : Nat → Value), wr.heap[w.heap.size]? = some (.cells (rowOf V) 43 (0, 0)) ∧ Rows6 wr w.heap.size V M ∧ confs (fun _ => 0) l = confs M (l.drop kk) ∧ ∀ t, t < 6 → M t < 64) ∧ Aside0 (Below w.heap.size w wr))
  case atStart =>
    refine ⟨0, by omega, by omega, rfl, ⟨fun _ => 0, fun _ => .slice none 0 0, alloc_last w _, fun t _ => by
      show (Kd.int .i64).R 3 _ _ _ (.slice none 0 0) (bitsTo 0 6)
      rw [show bitsTo 0 6 = [] from by decide +kernel]
      exact Kd.R_nil _ _ _ _ _, rfl, fun _ _ => by show 0 < 64; omega⟩, ⟨(Below.refl _ w).alloc (Nat.le_refl _) _⟩⟩
  case round =>
    obtain ⟨kk, hkk, hg, rfl, HM, HB⟩ := hrel
    obtain ⟨M, V, hb3, hrows, hconf, hM⟩ := HM.out
    by_cases hlt : kk < l.length
    · have hltz : (kk : Int) < (l.length : Int) := by omega
      obtain ⟨ad, e, hx0, hx1, hx2⟩ := at_T37 (Kd.C_below HR.out HB.out) (kk : Int) (by omega) hltz
      subst e
      have hok := HOK.out _ (mem_getD l z37 kk hlt)
      have hy0 : rd_T37 l (kk : Int) = l.getD kk z37 := rfl
      rw [hy0] at hx0 hx1 hx2
      clear hy0
      simp only [Int.toNat_natCast] at hx0 hx1 hx2
      have hdrop : l.drop kk = l.getD kk z37 :: l.drop (kk + 1) := by
        rw [List.drop_eq_getElem_cons hlt, List.getD_eq_getElem?_getD, List.getElem?_eq_getElem hlt]; rfl
      generalize hy : l.getD kk z37 = x at hx0 hx1 hx2 hok hdrop
      obtain ⟨tx, htx⟩ : ∃ tx : Nat, x.f0 = tx := ⟨x.f0.toNat, by have := hok.1; omega⟩
      have htx6 : tx < 6 := by have := hok.2.1; omega
      rw [htx] at hx0
      have B := Aside0.mk hy
      have HD := Aside0.mk hdrop
      have HC := Aside0.mk hconf
      have H3 := Aside0.mk hb3
      have HRW := Aside0.mk hrows
      clear hy hdrop hconf hb3 hrows
      obtain ⟨A', hcut, hA'⟩ := X_cut k37 27 37 Try.underlying27 info37 (some ad) c l (kk + 1) ((kk : Int) + 1) (by omega) (by omega) hcap
      have HR2 := Aside0.mk (hA' w HR.out)
      have HB2 := Aside0.mk (HB.out.alloc HB.out.size (.cells #[.int .i64 (tx : Int), .int .i64 x.f1, .int .i64 x.f2] 37))
      clear hA'
      have hgs : w.heap.size < wr.heap.size := blk_lt H3.out
      obtain ⟨ga, hga⟩ : ∃ ga, ga = wr.heap.size := ⟨_, rfl⟩
      go_wp2_with fail
      rw [← hga]
      go_loopg [7, 21] (l.length - (kk + 1)) (fun gg _ v21 wi => ∃ jj : Nat, jj ≤ l.length - (kk + 1) ∧ l.length - (kk + 1) - jj ≤ gg ∧ v21 = .int .i64 jj ∧ Aside0 (∃ (M' : Nat → Nat) (V' : Nat → Value), wi.heap[w.heap.size]? = some (.cells (rowOf V') 43 (0, 0)) ∧ Rows6 wi w.heap.size V' M' ∧ wi.heap[ga]? = some (.cells #[.int .i64 (tx : Int), .int .i64 x.f1, .int .i64 x.f2] 37 (0, 0)) ∧ addAll x M (l.drop (kk + 1)) = addAll x M' ((l.drop (kk + 1)).drop jj) ∧ ∀ t, t < 6 → M' t < 64) ∧ Aside0 (Below w.heap.size w wi))
      case atStart =>
        refine ⟨0, by omega, by omega, rfl, ⟨M, V, ?_, HRW.out.below ((Below.refl _ _).alloc (Nat.le_refl _) _), ?_, rfl, hM⟩, HB2⟩
        · rw [alloc_old _ _ _ hgs]; exact H3.out
        · rw [hga]; exact alloc_last _ _
      case round =>
        have HGA := Aside0.mk hga
        clear hga
        obtain ⟨jj, hjj, hg2, rfl, HM2, HB3⟩ := hrel
        obtain ⟨M', V', hi3, hrows2, hia, hadd, hM'⟩ := HM2.out
        have I3 := Aside0.mk hi3
        have IR := Aside0.mk hrows2
        have IA := Aside0.mk hia
        have HADD := Aside0.mk hadd
        have hca0 : ∀ o, (wr.alloc o).cell? ⟨ga, 0, none⟩ = some (.int .i64 (tx : Int)) := fun o => (blk_cell ((alloc_old wr o _ (blk_lt hia)).trans hia) 0).trans rfl
        have hca1 : ∀ o, (wr.alloc o).cell? ⟨ga, 1, none⟩ = some (.int .i64 x.f1) := fun o => (blk_cell ((alloc_old wr o _ (blk_lt hia)).trans hia) 1).trans rfl
        have hca2 : ∀ o, (wr.alloc o).cell? ⟨ga, 2, none⟩ = some (.int .i64 x.f2) := fun o => (blk_cell ((alloc_old wr o _ (blk_lt hia)).trans hia) 2).trans rfl
        have hgalt : ga < wr.heap.size := blk_lt hia
        have hg3lt : w.heap.size < wr.heap.size := blk_lt hi3
        clear hi3 hrows2 hia hadd
        by_cases hlt2 : jj < l.length - (kk + 1)
        · have hltz2 : (jj : Int) < ((l.length - (kk + 1) : Nat) : Int) := by omega
          obtain ⟨ad2, e2, hy0, hy1, hy2⟩ := at_T37 (Kd.C_below HR2.out HB3.out) (jj : Int) (by omega) hltz2
          subst e2
          have hlt3 : jj < (l.drop (kk + 1)).length := by rw [List.length_drop]; exact hlt2
          have hoky := HOK.out _ (List.mem_of_mem_drop (mem_getD (l.drop (kk + 1)) z37 jj hlt3))
          have hyy : rd_T37 (l.drop (kk + 1)) (jj : Int) = (l.drop (kk + 1)).getD jj z37 := rfl
          rw [hyy] at hy0 hy1 hy2
          clear hyy
          simp only [Int.toNat_natCast] at hy0 hy1 hy2
          have hdrop2 : (l.drop (kk + 1)).drop jj = (l.drop (kk + 1)).getD jj z37 :: (l.drop (kk + 1)).drop (jj + 1) := by
            rw [List.drop_eq_getElem_cons hlt3, List.getD_eq_getElem?_getD, List.getElem?_eq_getElem hlt3]; rfl
          generalize (l.drop (kk + 1)).getD jj z37 = y at hy0 hy1 hy2 hoky hdrop2
          obtain ⟨ty, hty⟩ : ∃ ty : Nat, y.f0 = ty := ⟨y.f0.toNat, by have := hoky.1; omega⟩
          have hty6 : ty < 6 := by have := hoky.2.1; omega
          rw [hty] at hy0
          have HD2 := Aside0.mk hdrop2
          clear hdrop2
          have hcl := clash2_f x y
          rw [htx, hty] at hcl
          have HCL := Aside0.mk hcl
          clear hcl
          have HTX := Aside0.mk htx
          have HTY := Aside0.mk hty
          clear htx hty hok hoky
          cases hq : clashB x y with
          | true =>
            rw [hq] at HCL
            have HQ := Aside0.mk hq
            clear hq
            obtain ⟨Av, cv, hv, hcv, hCv⟩ := Kd.R_reads (IR.out tx htx6)
            have HV := Aside0.mk hv
            clear hv hcv hCv
            go_wp2_with (go_at_call 24; refine (spec_l13Clash.calls _ _ _ _ _ _ true _ HCL.out).mono ?_; rintro e W3 ⟨rfl, hb⟩; obtain ⟨j3, _, ja, j7⟩ := conf_facts I3.out I3.out IA.out hb; have J3 := Aside0.mk j3; have JR := Aside0.mk (IR.out.below (below_then ((Below.refl _ _).alloc (Nat.le_refl _) _) (by simp) hb)); have JA := Aside0.mk ja; have J7 := Aside0.mk j7; have HB4 := Aside0.mk hb; have hd0 : W3.cell? ⟨ga, 0, none⟩ = some (.int .i64 (tx : Int)) := (blk_cell ja 0).trans rfl; have hd7 : W3.cell? ⟨wr.heap.size, 0, none⟩ = some (.int .i64 (ty : Int)) := (blk_cell j7 0).trans rfl; have hd3 : W3.cell? ⟨w.heap.size, tx, none⟩ = some (.slice Av (bitsTo (M' tx) 6).length cv) := (blk_cell j3 tx).trans ((row_get V' tx htx6).trans (by rw [HV.out])); have hf3 : W3.frozen? ⟨w.heap.size, tx, none⟩ = false := blk_frozen j3 tx; clear j3 ja j7 hb)
            have HP := Aside0.mk (show ∀ W : World, Below W3.heap.size W3 W → Calls Try.prog 25 #[.slice Av (bitsTo (M' tx) 6).length cv, .int .i64 (ty : Int)] W fun e w' => ∃ v, e = .returned v ∧ Kd.R (Kd.int .i64) 3 w' w.heap.size (fun _ => True) v (bitsTo (M' tx ||| 2 ^ ty) 6) ∧ Below W.heap.size W w' from fun W hb => by
              rw [← HV.out]
              exact l7Put_any (V' tx) (M' tx) ty (hM' tx htx6) hty6 W w.heap.size (Nat.le_trans (by have := HB3.out.size; have := HB4.out.size; simp at this; omega) hb.size) (Kd.R_below (JR.out tx htx6) hb))
            have htx0 : (0 : Int) ≤ (tx : Int) := by omega
            have htxz : (tx : Int) < 6 := by omega
            have hlt0 : ga < W3.heap.size := blk_lt JA.out
            have hlt7 : wr.heap.size < W3.heap.size := blk_lt J7.out
            have hlt4 : w.heap.size < W3.heap.size := blk_lt J3.out
            go_region_law
              ((first | (go_simp; go_at_call 25; refine (HP.out _ (below_drew (Below.refl _ _))).mono ?_; rintro e w4 ⟨v4, rfl, hr4, hb4⟩; obtain ⟨A4, c4, rfl⟩ := Kd.R_slice hr4; have hb5 : Below W3.heap.size W3 w4 := (below_drew (Below.refl _ W3)).trans hb4; have k0 := (hb5.cell (p := ⟨ga, 0, none⟩) hlt0).trans hd0; have k7 := (hb5.cell (p := ⟨wr.heap.size, 0, none⟩) hlt7).trans hd7; have k3 := (hb5.cell (p := ⟨w.heap.size, tx, none⟩) hlt4).trans hd3; have kf := (hb5.frozen (p := ⟨w.heap.size, tx, none⟩) hlt4).trans hf3; have HR4 := Aside0.mk hr4; have HB5 := Aside0.mk hb5; clear hr4 hb4 hb5)))
            all_goals
              go_wp2
              go_roundg (l.length - (kk + 1) - (jj + 1))
              case measure => omega
              case rel =>
                have hneA : ga ≠ w.heap.size := by have := HGA.out; omega
                have g5 := (HB5.out.block _ hlt4).trans J3.out
                have ga5 := (HB5.out.block _ hlt0).trans JA.out
                have hb6 : Below w.heap.size w w4 := (below_then (HB3.out.alloc HB3.out.size _) (by simp; omega) HB4.out).trans (HB5.out.mono (by omega))
                refine ⟨jj + 1, by omega, by omega, by go_num, ⟨fun s => if s = tx then M' tx ||| 2 ^ ty else M' s, fun s => if s = tx then .slice A4 (bitsTo (M' tx ||| 2 ^ ty) 6).length c4 else V' s, ?_, ?_, ?_, ?_, ?_⟩, ⟨hb6.setCell (by simp) _⟩⟩
                · rw [← row_set]; exact blk_set g5 tx _
                · intro s hs
                  by_cases h : s = tx
                  · simp only [h, if_true]; exact Kd.R_set HR4.out g5 (by decide) _ _
                  · simp only [h, if_false]; exact Kd.R_set (Kd.R_below (JR.out s hs) HB5.out) g5 (by decide) _ _
                · exact blk_far (p := ⟨w.heap.size, tx, none⟩) ga5 hneA _
                · rw [HADD.out, HD2.out, addAll, if_pos HQ.out, HTX.out, HTY.out]
                  congr 1
                  funext s
                  by_cases h : s = tx <;> simp [h]
                · intro s hs
                  by_cases h : s = tx
                  · simp only [h, if_true]; exact or_lt_ _ _ (hM' tx htx6) hty6
                  · simp only [h, if_false]; exact hM' s hs
          | false =>
            rw [hq] at HCL
            have HQ := Aside0.mk hq
            clear hq
            go_wp2_with (go_at_call 24; refine (spec_l13Clash.calls _ _ _ _ _ _ false _ HCL.out).mono ?_; rintro e W3 ⟨rfl, hb⟩; obtain ⟨j3, _, ja, j7⟩ := conf_facts I3.out I3.out IA.out hb; have J3 := Aside0.mk j3; have JR := Aside0.mk (IR.out.below (below_then ((Below.refl _ _).alloc (Nat.le_refl _) _) (by simp) hb)); have JA := Aside0.mk ja; have HB4 := Aside0.mk hb; clear j3 ja j7 hb)
            go_roundg (l.length - (kk + 1) - (jj + 1))
            case measure => omega
            case rel =>
              refine ⟨jj + 1, by omega, by omega, by go_num, ⟨M', V', J3.out, JR.out, JA.out, ?_, hM'⟩, ⟨below_then (HB3.out.alloc HB3.out.size _) (by simp; omega) HB4.out⟩⟩
              rw [HADD.out, HD2.out, addAll, if_neg (by rw [HQ.out]; simp)]
        · have hltz2 : ¬ (jj : Int) < ((l.length - (kk + 1) : Nat) : Int) := by omega
          have hjj2 : jj = l.length - (kk + 1) := by omega
          subst hjj2
          go_wp2_with fail
          go_roundg (l.length - (kk + 1))
          case measure => omega
          case rel =>
            refine ⟨kk + 1, by omega, by omega, by go_num, ⟨M', V', I3.out, IR.out, ?_, hM'⟩, HB3⟩
            rw [HC.out, HD.out, confs, HADD.out, List.drop_eq_nil_of_le (by rw [List.length_drop]; omega), addAll]
    · have hltz : ¬ (kk : Int) < (l.length : Int) := by omega
      have hkk2 : kk = l.length := by omega
      subst hkk2
      have HR3 := Aside0.mk hrows
      have H3 := Aside0.mk hb3
      have HCF := Aside0.mk hconf
      clear hrows hb3 hconf
      go_wp2_with fail
      go_ret
      refine ⟨_, rfl, ?_, HB.out⟩
      rw [HCF.out, List.drop_length, confs]
      have hown : wr.ownsRow w.heap.size 43 1 (.slice (some ⟨w.heap.size, 0, none⟩) 6 6) 6 (rowOf V).toList := ⟨rfl, .inr ⟨w.heap.size, 6, rowOf V, rfl, Nat.le_refl _, H3.out, Nat.le_refl _, by simp [maxLen], rfl, rfl⟩⟩
      refine ⟨fun _ _ => trivial, (rowOf V).toList, ?_, ?_⟩
      · rw [setsOf_length]; exact hown
      · refine ⟨by rw [setsOf_length]; rfl, fun j p hj => ?_⟩
        have hj6 : j < 6 := by have := (List.getElem?_eq_some_iff.1 hj).1; rwa [setsOf_length] at this
        have hp : bitsTo (M j) 6 = p := by
          have h2 : (setsOf M 6)[j]? = some (bitsTo (M j) 6) := by simp [setsOf, hj6]
          rw [h2] at hj
          exact Option.some.inj hj
        refine ⟨V j, ?_, ?_⟩
        · have h3 : j = 0 ∨ j = 1 ∨ j = 2 ∨ j = 3 ∨ j = 4 ∨ j = 5 := by omega
          rcases h3 with rfl | rfl | rfl | rfl | rfl | rfl <;> rfl
        · rw [← hp]
          refine Kd.R_mono (Kd.R_types (HR3.out j hj6) H3.out (by decide)) (fun k hk => ⟨trivial, fun e => hk.2 ?_⟩)
          simpa [Value.ownBlock] using e
end Go.Proofs.Ytmfagnalnooppaa.Q
