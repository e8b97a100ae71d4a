/- conflicts: the array of sets that it answers. -/
import Derived.Test.YtmfagnalnooppaaXBase
import Derived.Test.YtmfagnalnooppaaQImplClash
namespace Go.Proofs.Ytmfagnalnooppaa.Q
open Go.RowKit Go.Proofs.YtmfagnalnooppaaW.PrintWords Go.Proofs.YtmfagnalnooppaaW.PrintLast
set_option linter.unusedVariables false
set_option linter.unusedSimpArgs false

def clashB (x y : S37) : Bool := x.f0 != y.f0 && (x.f2 == y.f2 && (x.f1 == 2 || y.f1 == 2))
/-- All that later steps add to a's set, of the steps in l. -/
def addAll (x : S37) (M : Nat → Nat) : List S37 → Nat → Nat
  | [] => M
  | y :: l => addAll x (if clashB x y then fun t => if t = x.f0.toNat then M t ||| 2 ^ y.f0.toNat else M t else M) l
def confs (M : Nat → Nat) : List S37 → Nat → Nat
  | [] => M
  | x :: l => confs (addAll x M l) l
def okStep (x : S37) : Prop := 0 ≤ x.f0 ∧ x.f0 < 6 ∧ 1 ≤ x.f1 ∧ x.f1 ≤ 2 ∧ 0 ≤ x.f2 ∧ x.f2 < 4
def arrOf (M : Nat → Nat) : List Value := (List.range 6).map fun t => Value.int .i64 (M t : Int)
theorem arr_zero : (arrOf fun _ => 0).toArray = #[Value.int .i64 0, .int .i64 0, .int .i64 0, .int .i64 0, .int .i64 0, .int .i64 0] := rfl
theorem arr_get (M : Nat → Nat) (t : Nat) (h : t < 6) : (arrOf M).toArray[t]? = some (.int .i64 (M t : Int)) := by simp [arrOf, h]
theorem arr_set (M : Nat → Nat) (t v : Nat) : (arrOf M).toArray.setIfInBounds t (.int .i64 (v : Int)) = (arrOf fun s => if s = t then v else M s).toArray := by
  apply Array.ext_getElem?
  intro i
  rw [Array.getElem?_setIfInBounds]
  by_cases h : t = i
  · subst h
    by_cases h6 : t < 6
    · simp [arrOf, h6]
    · simp [arrOf, h6]
  · have h' : ¬ i = t := fun e => h e.symm
    by_cases h6 : i < 6
    · simp [arrOf, h, h', h6]
    · simp [arrOf, h, h', h6]
theorem clashB_f (x y : S37) : impl_clash.f x.f0 x.f1 x.f2 y.f0 y.f1 y.f2 = some (clashB x y) := by
  unfold impl_clash.f clashB
  by_cases h1 : x.f0 = y.f0
  · simp [h1]
  · by_cases h2 : x.f2 = y.f2
    · by_cases h3 : x.f1 = 2
      · simp [h1, h2, h3]
      · have hb : (x.f0 != y.f0) = true := by rw [bne_iff_ne]; exact h1
        simp [h1, h2, h3, hb]
    · simp [h1, h2]
theorem alloc_last (W : World) (o : Obj) : (W.alloc o).heap[W.heap.size]? = some o := heap_alloc_new W o
theorem alloc_old (W : World) (o : Obj) (i : Nat) (h : i < W.heap.size) : (W.alloc o).heap[i]? = W.heap[i]? := ((Below.refl W.heap.size W).alloc (Nat.le_refl _) o).block i h

theorem or_bits_ : ∀ a : Nat, a < 64 → ∀ b : Nat, b < 6 → Go.bits .or .i64 (a : Int) (2 ^ b) = ((a ||| 2 ^ b : Nat) : Int) := by
  intro a ha b hb
  have h : ∀ a : Fin 64, ∀ b : Fin 6, Go.bits .or .i64 (a.val : Int) (2 ^ b.val) = ((a.val ||| 2 ^ b.val : Nat) : Int) := by decide +kernel
  exact h ⟨a, ha⟩ ⟨b, hb⟩
theorem pow_wrap_ : ∀ t : Nat, t < 6 → wrap64 (2 ^ t) = 2 ^ t := by
  intro t ht
  have h : ∀ t : Fin 6, wrap64 (2 ^ t.val) = 2 ^ t.val := by decide +kernel
  exact h ⟨t, ht⟩
theorem or_lt_ (a b : Nat) (ha : a < 64) (hb : b < 6) : a ||| 2 ^ b < 64 := Nat.or_lt_two_pow (n := 6) ha (Nat.pow_lt_pow_right (by omega) hb)
theorem conf_facts {wr W3 : World} {g3 g2 ga : Nat} {c3 c2 ca c7 : Array Value} {t3 t2 ta t7 : TypeId} (h3 : wr.heap[g3]? = some (.cells c3 t3 (0, 0))) (h2 : wr.heap[g2]? = some (.cells c2 t2 (0, 0))) (ha : wr.heap[ga]? = some (.cells ca ta (0, 0)))
    (hb : Below (wr.alloc (.cells c7 t7)).heap.size (wr.alloc (.cells c7 t7)) W3) :
    W3.heap[g3]? = some (.cells c3 t3 (0, 0)) ∧ W3.heap[g2]? = some (.cells c2 t2 (0, 0)) ∧ W3.heap[ga]? = some (.cells ca ta (0, 0)) ∧ W3.heap[wr.heap.size]? = some (.cells c7 t7 (0, 0)) := by
  have hs : (wr.alloc (.cells c7 t7)).heap.size = wr.heap.size + 1 := by simp
  have q : ∀ i, i < wr.heap.size → W3.heap[i]? = wr.heap[i]? := fun i hi => (hb.block i (by omega)).trans (alloc_old wr _ i hi)
  exact ⟨(q _ (blk_lt h3)).trans h3, (q _ (blk_lt h2)).trans h2, (q _ (blk_lt ha)).trans ha, (hb.block _ (by omega)).trans (alloc_last wr _)⟩
set_option maxHeartbeats 4000000 in
theorem conflicts_calls (A : Option Addr) (c : Nat) (l : List S37) (w : World) (hr : Kd.C k37 w A l.length l) (hcap : l.length ≤ c) (hok : ∀ x ∈ l, okStep x) :
    Calls Try.prog 17 #[.slice A l.length c] w fun e w' => e = .returned (.agg (arrOf (confs (fun _ => 0) l)).toArray) ∧ Below w.heap.size w w' := by
  have hbig : l.length ≤ 9223372036854775807 := hr.2.1
  have HR := Aside0.mk hr
  have HOK := Aside0.mk hok
  clear hr hok
  go_enter Try.func17, Try.ntmps17
  go_wp2_with fail
  go_loopg [10] l.length (fun gg v10 wr => ∃ kk : Nat, kk ≤ l.length ∧ l.length - kk ≤ gg ∧ v10 = .int .i64 kk ∧ Aside0 (∃ M : Nat → Nat, wr.heap[w.heap.size + 1]? = some (.cells (arrOf M).toArray 41 (0, 0)) ∧ wr.heap[w.heap.size]? = some (.cells (arrOf (fun _ => 0)).toArray 41 (0, 0)) ∧ confs (fun _ => 0) l = confs M (l.drop kk) ∧ ∀ t, t < 6 → M t < 64) ∧ Aside0 (Below w.heap.size w wr))
  case atStart =>
    refine ⟨0, by omega, by omega, rfl, ⟨fun _ => 0, ?_, ?_, rfl, fun _ _ => by show 0 < 64; omega⟩, ⟨((Below.refl _ w).alloc (Nat.le_refl _) _).alloc (by simp) _⟩⟩
    · rw [arr_zero]; have := alloc_last (w.alloc (Obj.cells #[Value.int .i64 0, .int .i64 0, .int .i64 0, .int .i64 0, .int .i64 0, .int .i64 0] 41)) (Obj.cells #[Value.int .i64 0, .int .i64 0, .int .i64 0, .int .i64 0, .int .i64 0, .int .i64 0] 41); simpa using this
    · rw [arr_zero, alloc_old _ _ _ (by simp)]; exact alloc_last w _
  case round =>
    obtain ⟨kk, hkk, hg, rfl, HM, HB⟩ := hrel
    obtain ⟨M, hb3, hb2, hconf, hM⟩ := HM.out
    by_cases hlt : kk < l.length
    · have hltz : (kk : Int) < (l.length : Int) := by omega
      obtain ⟨ad, e, hx0, hx1, hx2⟩ := at_T37 (Kd.C_below HR.out HB.out) (kk : Int) (by omega) hltz
      subst e
      have hok := HOK.out _ (mem_getD l z37 kk hlt)
      have hy0 : rd_T37 l (kk : Int) = l.getD kk z37 := rfl
      rw [hy0] at hx0 hx1 hx2
      clear hy0
      simp only [Int.toNat_natCast] at hx0 hx1 hx2
      have hdrop : l.drop kk = l.getD kk z37 :: l.drop (kk + 1) := by
        rw [List.drop_eq_getElem_cons hlt, List.getD_eq_getElem?_getD, List.getElem?_eq_getElem hlt]; rfl
      generalize hy : l.getD kk z37 = x at hx0 hx1 hx2 hok hdrop
      obtain ⟨tx, htx⟩ : ∃ tx : Nat, x.f0 = tx := ⟨x.f0.toNat, by have := hok.1; omega⟩
      have htx6 : tx < 6 := by have := hok.2.1; omega
      rw [htx] at hx0
      have B := Aside0.mk hy
      have HD := Aside0.mk hdrop
      have HC := Aside0.mk hconf
      have H3 := Aside0.mk hb3
      have H2 := Aside0.mk hb2
      clear hy hdrop hconf hb3 hb2
      obtain ⟨A', hcut, hA'⟩ := X_cut k37 27 37 Try.underlying27 info37 (some ad) c l (kk + 1) ((kk : Int) + 1) (by omega) (by omega) hcap
      have HR2 := Aside0.mk (hA' w HR.out)
      have HB2 := Aside0.mk (HB.out.alloc HB.out.size (.cells #[.int .i64 (tx : Int), .int .i64 x.f1, .int .i64 x.f2] 37))
      clear hA'
      have hgs : w.heap.size + 1 < wr.heap.size := (Array.getElem?_eq_some_iff.1 H3.out).1
      obtain ⟨ga, hga⟩ : ∃ ga, ga = wr.heap.size := ⟨_, rfl⟩
      go_wp2_with fail
      rw [← hga]
      go_loopg [7, 20] (l.length - (kk + 1)) (fun gg _ v20 wi => ∃ jj : Nat, jj ≤ l.length - (kk + 1) ∧ l.length - (kk + 1) - jj ≤ gg ∧ v20 = .int .i64 jj ∧ Aside0 (∃ M' : Nat → Nat, wi.heap[w.heap.size + 1]? = some (.cells (arrOf M').toArray 41 (0, 0)) ∧ wi.heap[w.heap.size]? = some (.cells (arrOf (fun _ => 0)).toArray 41 (0, 0)) ∧ wi.heap[ga]? = some (.cells #[.int .i64 (tx : Int), .int .i64 x.f1, .int .i64 x.f2] 37 (0, 0)) ∧ addAll x M (l.drop (kk + 1)) = addAll x M' ((l.drop (kk + 1)).drop jj) ∧ ∀ t, t < 6 → M' t < 64) ∧ Aside0 (Below w.heap.size w wi))
      case atStart =>
        refine ⟨0, by omega, by omega, rfl, ⟨M, ?_, ?_, ?_, rfl, hM⟩, HB2⟩
        · rw [alloc_old _ _ _ hgs]; exact H3.out
        · rw [alloc_old _ _ _ (by omega)]; exact H2.out
        · rw [hga]; exact alloc_last _ _
      case round =>
        have HGA := Aside0.mk hga
        clear hga
        obtain ⟨jj, hjj, hg2, rfl, HM2, HB3⟩ := hrel
        obtain ⟨M', hi3, hi2, hia, hadd, hM'⟩ := HM2.out
        have I3 := Aside0.mk hi3
        have I2 := Aside0.mk hi2
        have IA := Aside0.mk hia
        have HADD := Aside0.mk hadd
        have hca0 : ∀ o, (wr.alloc o).cell? ⟨ga, 0, none⟩ = some (.int .i64 (tx : Int)) := fun o => (blk_cell ((alloc_old wr o _ (blk_lt hia)).trans hia) 0).trans rfl
        have hca1 : ∀ o, (wr.alloc o).cell? ⟨ga, 1, none⟩ = some (.int .i64 x.f1) := fun o => (blk_cell ((alloc_old wr o _ (blk_lt hia)).trans hia) 1).trans rfl
        have hca2 : ∀ o, (wr.alloc o).cell? ⟨ga, 2, none⟩ = some (.int .i64 x.f2) := fun o => (blk_cell ((alloc_old wr o _ (blk_lt hia)).trans hia) 2).trans rfl
        have hgalt : ga < wr.heap.size := blk_lt hia
        have hg3lt : w.heap.size + 1 < wr.heap.size := blk_lt hi3
        clear hi3 hi2 hia hadd
        by_cases hlt2 : jj < l.length - (kk + 1)
        · have hltz2 : (jj : Int) < ((l.length - (kk + 1) : Nat) : Int) := by omega
          obtain ⟨ad2, e2, hy0, hy1, hy2⟩ := at_T37 (Kd.C_below HR2.out HB3.out) (jj : Int) (by omega) hltz2
          subst e2
          have hlt3 : jj < (l.drop (kk + 1)).length := by rw [List.length_drop]; exact hlt2
          have hoky := HOK.out _ (List.mem_of_mem_drop (mem_getD (l.drop (kk + 1)) z37 jj hlt3))
          have hyy : rd_T37 (l.drop (kk + 1)) (jj : Int) = (l.drop (kk + 1)).getD jj z37 := rfl
          rw [hyy] at hy0 hy1 hy2
          clear hyy
          simp only [Int.toNat_natCast] at hy0 hy1 hy2
          have hdrop2 : (l.drop (kk + 1)).drop jj = (l.drop (kk + 1)).getD jj z37 :: (l.drop (kk + 1)).drop (jj + 1) := by
            rw [List.drop_eq_getElem_cons hlt3, List.getD_eq_getElem?_getD, List.getElem?_eq_getElem hlt3]; rfl
          generalize (l.drop (kk + 1)).getD jj z37 = y at hy0 hy1 hy2 hoky hdrop2
          obtain ⟨ty, hty⟩ : ∃ ty : Nat, y.f0 = ty := ⟨y.f0.toNat, by have := hoky.1; omega⟩
          have hty6 : ty < 6 := by have := hoky.2.1; omega
          rw [hty] at hy0
          have HD2 := Aside0.mk hdrop2
          clear hdrop2
          have hcl := clashB_f x y
          rw [htx, hty] at hcl
          have HCL := Aside0.mk hcl
          clear hcl
          have HTX := Aside0.mk htx
          have HTY := Aside0.mk hty
          clear htx hty hok hoky
          cases hq : clashB x y with
          | true =>
            rw [hq] at HCL
            have HQ := Aside0.mk hq
            clear hq
            go_wp2_with (go_at_call 28; refine (impl_clash.calls _ _ _ _ _ _ true _ HCL.out).mono ?_; rintro e W3 ⟨rfl, hb⟩; obtain ⟨j3, j2, ja, j7⟩ := conf_facts I3.out I2.out IA.out hb; have J3 := Aside0.mk j3; have J2 := Aside0.mk j2; have JA := Aside0.mk ja; have HB4 := Aside0.mk hb; have hd0 : W3.cell? ⟨ga, 0, none⟩ = some (.int .i64 (tx : Int)) := (blk_cell ja 0).trans rfl; have hd7 : W3.cell? ⟨wr.heap.size, 0, none⟩ = some (.int .i64 (ty : Int)) := (blk_cell j7 0).trans rfl; have hd3 : W3.cell? ⟨w.heap.size + 1, tx, none⟩ = some (.int .i64 (M' tx : Int)) := (blk_cell j3 tx).trans (arr_get M' tx htx6); have hf3 : W3.frozen? ⟨w.heap.size + 1, tx, none⟩ = false := blk_frozen j3 tx; clear j3 j2 ja j7 hb)
            go_region
            go_wp2
            rw [show Go.bits .or .i64 (M' tx : Int) (wrap64 (2 ^ ty)) = ((M' tx ||| 2 ^ ty : Nat) : Int) from by
              rw [show wrap64 (2 ^ ty) = 2 ^ ty from pow_wrap_ ty hty6]; exact or_bits_ _ (hM' tx htx6) ty hty6]
            go_roundg (l.length - (kk + 1) - (jj + 1))
            case measure => omega
            case rel =>
              have hne2 : w.heap.size ≠ w.heap.size + 1 := by omega
              have hneA : ga ≠ w.heap.size + 1 := by have := HGA.out; omega
              refine ⟨jj + 1, by omega, by omega, by go_num, ⟨fun s => if s = tx then M' tx ||| 2 ^ ty else M' s, ?_, ?_, ?_, ?_, ?_⟩, ⟨?_⟩⟩
              · rw [← arr_set]; exact blk_set J3.out tx _
              · exact blk_far (p := ⟨w.heap.size + 1, tx, none⟩) J2.out hne2 _
              · exact blk_far (p := ⟨w.heap.size + 1, tx, none⟩) JA.out hneA _
              · rw [HADD.out, HD2.out, addAll, if_pos HQ.out, HTX.out, HTY.out]
                congr 1
                funext s
                by_cases h : s = tx <;> simp [h]
              · intro s hs
                by_cases h : s = tx
                · simp only [h, if_true]; exact or_lt_ _ _ (hM' tx htx6) hty6
                · simp only [h, if_false]; exact hM' s hs
              · exact below_drew ((below_then (HB3.out.alloc HB3.out.size _) (by simp; omega) HB4.out).setCell (by simp) _)
          | false =>
            rw [hq] at HCL
            have HQ := Aside0.mk hq
            clear hq
            go_wp2_with (go_at_call 28; refine (impl_clash.calls _ _ _ _ _ _ false _ HCL.out).mono ?_; rintro e W3 ⟨rfl, hb⟩; obtain ⟨j3, j2, ja, j7⟩ := conf_facts I3.out I2.out IA.out hb; have J3 := Aside0.mk j3; have J2 := Aside0.mk j2; have JA := Aside0.mk ja; have HB4 := Aside0.mk hb; clear j3 j2 ja j7 hb)
            go_roundg (l.length - (kk + 1) - (jj + 1))
            case measure => omega
            case rel =>
              refine ⟨jj + 1, by omega, by omega, by go_num, ⟨M', J3.out, J2.out, JA.out, ?_, hM'⟩, ⟨below_then (HB3.out.alloc HB3.out.size _) (by simp; omega) HB4.out⟩⟩
              rw [HADD.out, HD2.out, addAll, if_neg (by rw [HQ.out]; simp)]
        · have hltz2 : ¬ (jj : Int) < ((l.length - (kk + 1) : Nat) : Int) := by omega
          have hjj2 : jj = l.length - (kk + 1) := by omega
          subst hjj2
          go_wp2_with fail
          go_roundg (l.length - (kk + 1))
          case measure => omega
          case rel =>
            refine ⟨kk + 1, by omega, by omega, by go_num, ⟨M', I3.out, I2.out, ?_, hM'⟩, HB3⟩
            rw [HC.out, HD.out, confs, HADD.out, List.drop_eq_nil_of_le (by rw [List.length_drop]; omega), addAll]
    · have hltz : ¬ (kk : Int) < (l.length : Int) := by omega
      have hkk2 : kk = l.length := by omega
      subst hkk2
      have hd : ∀ i, i < 6 → wr.cell? ⟨w.heap.size + 1, i, none⟩ = some (.int .i64 (M i : Int)) := fun i hi => (blk_cell hb3 i).trans (arr_get M i hi)
      have e0 := hd 0 (by omega)
      have e1 := hd 1 (by omega)
      have e2 := hd 2 (by omega)
      have e3 := hd 3 (by omega)
      have e4 := hd 4 (by omega)
      have e5 := hd 5 (by omega)
      have k0 : ∀ i, i < 6 → wr.cell? ⟨w.heap.size, i, none⟩ = some (.int .i64 0) := fun i hi => (blk_cell hb2 i).trans (arr_get (fun _ => 0) i hi)
      have k1 := k0 0 (by omega)
      have q1 : wr.frozen? ⟨w.heap.size, 0, none⟩ = false := blk_frozen hb2 0
      have k2 := k0 1 (by omega)
      have q2 : wr.frozen? ⟨w.heap.size, 1, none⟩ = false := blk_frozen hb2 1
      have k3 := k0 2 (by omega)
      have q3 : wr.frozen? ⟨w.heap.size, 2, none⟩ = false := blk_frozen hb2 2
      have k4 := k0 3 (by omega)
      have q4 : wr.frozen? ⟨w.heap.size, 3, none⟩ = false := blk_frozen hb2 3
      have k5 := k0 4 (by omega)
      have q5 : wr.frozen? ⟨w.heap.size, 4, none⟩ = false := blk_frozen hb2 4
      have k6 := k0 5 (by omega)
      have q6 : wr.frozen? ⟨w.heap.size, 5, none⟩ = false := blk_frozen hb2 5
      have HB3 := Aside0.mk hb3
      have HB2 := Aside0.mk hb2
      have HCF := Aside0.mk hconf
      clear hb3 hb2 hd k0 hconf
      go_wp2_with fail
      have b5 := blk_set (blk_set (blk_set (blk_set (blk_set (blk_set HB2.out 0 (.int .i64 (M 0 : Int))) 1 (.int .i64 (M 1 : Int))) 2 (.int .i64 (M 2 : Int))) 3 (.int .i64 (M 3 : Int))) 4 (.int .i64 (M 4 : Int))) 5 (.int .i64 (M 5 : Int))
      have ea : ((((((arrOf fun _ => 0).toArray.setIfInBounds 0 (.int .i64 (M 0 : Int))).setIfInBounds 1 (.int .i64 (M 1 : Int))).setIfInBounds 2 (.int .i64 (M 2 : Int))).setIfInBounds 3 (.int .i64 (M 3 : Int))).setIfInBounds 4 (.int .i64 (M 4 : Int))).setIfInBounds 5 (.int .i64 (M 5 : Int)) = (arrOf M).toArray := rfl
      rw [ea] at b5
      refine bodyPost_ret (results_cell_row rfl _ _ w.heap.size 41 (arrOf M).toArray (0, 0) _ rfl b5 Try.underlying41 rfl (by kernel_rfl)) rfl ?_
      refine ⟨by rw [HCF.out, List.drop_length, confs], ?_⟩
      exact ((((((HB.out.setCell (by simp) _).setCell (by simp) _).setCell (by simp) _).setCell (by simp) _).setCell (by simp) _).setCell (by simp) _)
end Go.Proofs.Ytmfagnalnooppaa.Q
