/- The marks: each cell gets a number of its own. -/
import Derived.Test.YtmfagnalnooppaaXKinds
import Derived.Test.YtmfagnalnooppaaQLawsHeldIntSS
namespace Go.Proofs.Ytmfagnalnooppaa.Q
open Go.RowKit Go.Proofs.YtmfagnalnooppaaW.PrintWords Go.Proofs.YtmfagnalnooppaaW.PrintLast
set_option linter.unusedVariables false
set_option linter.unusedSimpArgs false

def mkInts (k : Int) : List Int → List Int
  | [] => []
  | _ :: l => k :: mkInts (k + 1) l
theorem mkInts_length (k : Int) (l : List Int) : (mkInts k l).length = l.length := by
  induction l generalizing k with
  | nil => rfl
  | cons x l ih => simp [mkInts, ih]
/-- The first i elements marked. -/
def mkTo (k : Int) (l : List Int) (i : Nat) : List Int := mkInts k (l.take i) ++ l.drop i
theorem mkTo_length (k : Int) (l : List Int) (i : Nat) : (mkTo k l i).length = l.length := by
  simp [mkTo, mkInts_length]; omega
theorem mkInts_snoc (k : Int) (l : List Int) (x : Int) : mkInts k (l ++ [x]) = mkInts k l ++ [k + l.length] := by
  induction l generalizing k with
  | nil => simp [mkInts]
  | cons y l ih => simp [mkInts, ih]; omega
theorem mkTo_succ (k : Int) (l : List Int) (i : Nat) (hi : i < l.length) : mkTo k l (i + 1) = (mkTo k l i).set i (k + i) := by
  unfold mkTo
  rw [List.take_succ_eq_append_getElem hi, mkInts_snoc, List.drop_eq_getElem_cons hi, List.length_take, Nat.min_eq_left (by omega)]
  have hl : (mkInts k (l.take i)).length = i := by rw [mkInts_length, List.length_take]; omega
  rw [List.set_append, if_neg (by omega), hl, Nat.sub_self, List.set_cons_zero, List.append_assoc]
  rfl
theorem mkTo_zero (k : Int) (l : List Int) : mkTo k l 0 = l := by simp [mkTo, mkInts]
theorem mkTo_all (k : Int) (l : List Int) : mkTo k l l.length = mkInts k l := by simp [mkTo]

set_option maxHeartbeats 4000000 in
theorem markIntS_X (v : Value) (l : List Int) (k : Int) (B : Nat → Prop) (w : World) (h : KX.int.Row 3 w B v l) (hk0 : 0 ≤ k) (hk : k + l.length ≤ 1000000000) :
    Calls Try.prog 21 #[v, .int .i64 k] w fun e w' => e = .returned (.int .i64 (k + l.length)) ∧ KX.int.Row 3 w' B v (mkInts k l) ∧ Wrote B w w' := by
  obtain ⟨A, c, hc, hm, rfl⟩ : ∃ A c, l.length ≤ c ∧ c ≤ maxLen ∧ v = .slice A l.length c := by
    obtain ⟨A, c, hv, hc, hm, _⟩ := h
    exact ⟨A, c, hc, hm, hv⟩
  have HX := Aside0.mk h
  clear h
  go_enter Try.func21, Try.ntmps21
  go_wp2_with fail
  go_loopg [1, 5] l.length (fun gg v1 v5 wr => ∃ i : Nat, i ≤ l.length ∧ l.length - i ≤ gg ∧ v1 = .int .i64 (k + i) ∧ v5 = .int .i64 i ∧ Aside0 (KX.int.Row 3 wr B (.slice A l.length c) (mkTo k l i)) ∧ Aside0 (Wrote B w wr))
  case atStart => exact ⟨0, by omega, by omega, by simp, rfl, ⟨by rw [mkTo_zero]; exact HX.out⟩, ⟨Wrote.refl _ _⟩⟩
  case round =>
    obtain ⟨i, hi, hg, rfl, rfl, HO, HW⟩ := hrel
    by_cases hlt : i < l.length
    · have hltz : (i : Int) < (l.length : Int) := by omega
      obtain ⟨g, c2, cur, f, cc, hv, hc2, hBg, hh, hcl, hcc, hxx, hback⟩ := KX.Row_elem HO.out 0 i (by rw [mkTo_length]; exact hlt)
      injection hv with hA hv2 hv3
      clear hv2 hv3
      subst hA
      have hcell : wr.cell? ⟨g, i, none⟩ = some (.int .i64 ((mkTo k l i).getD i 0)) := by
        refine (blk_cell hh i).trans ?_
        have := hcc 0 (.int .i64 ((mkTo k l i).getD i 0)) (by rw [show cc = _ from hxx]; rfl)
        simpa [show KX.int.sz = 1 from rfl] using this
      have hfr : wr.frozen? ⟨g, i, none⟩ = false := blk_frozen hh i
      have HY := Aside0.mk (show cc = [.int .i64 ((mkTo k l i).getD i 0)] from hxx)
      generalize (mkTo k l i).getD i 0 = y0 at hcell HY
      have HB := Aside0.mk hback
      have HH := Aside0.mk hh
      have HCC := Aside0.mk hcc
      clear hback hh hcc hxx
      go_wp2_with fail
      go_roundg (l.length - (i + 1))
      case measure => omega
      case rel =>
        refine ⟨i + 1, by omega, by omega, by simp; omega, by go_num, ⟨?_⟩, ⟨HW.out.trans (Wrote.setCell _ _ _ hBg)⟩⟩
        rw [mkTo_succ k l i hlt]
        refine HB.out _ (cur.setIfInBounds i (.int .i64 (k + i))) [.int .i64 (k + i)] (k + i) (blk_set HH.out i _) rfl ?_ ?_ rfl ?_
        · intro j u hu
          have hj : j = 0 := by
            have := (List.getElem?_eq_some_iff.1 hu).1
            simp at this; exact this
          subst hj
          have hq := HCC.out 0 (.int .i64 y0) (by rw [HY.out]; rfl)
          have hsz : i < cur.size := by
            have := (Array.getElem?_eq_some_iff.1 hq).1
            simp [show KX.int.sz = 1 from rfl] at this; exact this
          simp at hu
          subst hu
          simp [show KX.int.sz = 1 from rfl, Array.getElem?_setIfInBounds, hsz]
        · intro q hq
          rw [Array.getElem?_setIfInBounds, if_neg (by simp [show KX.int.sz = 1 from rfl] at hq; omega)]
        · intro q hq hne _ _
          exact Below.heap_setCell _ _ _ _ hne
    · have hltz : ¬ (i : Int) < (l.length : Int) := by omega
      have hi2 : i = l.length := by omega
      subst hi2
      go_wp2_with fail
      go_ret
      exact ⟨rfl, by rw [mkTo_all] at HO; exact HO.out, HW.out⟩

/-- The lists of a list marked, one behind the other. -/
def mkIntss (k : Int) : List (List Int) → List (List Int)
  | [] => []
  | x :: l => mkInts k x :: mkIntss (k + x.length) l
def lens (l : List (List Int)) : Nat := (l.map List.length).sum
theorem mkIntss_length (k : Int) (l : List (List Int)) : (mkIntss k l).length = l.length := by
  induction l generalizing k with
  | nil => rfl
  | cons x l ih => simp [mkIntss, ih]
theorem mkIntss_snoc (k : Int) (l : List (List Int)) (x : List Int) : mkIntss k (l ++ [x]) = mkIntss k l ++ [mkInts (k + lens l) x] := by
  induction l generalizing k with
  | nil => simp [mkIntss, lens]
  | cons y l ih => simp [mkIntss, ih, lens]; congr 1; omega
def mkssTo (k : Int) (l : List (List Int)) (i : Nat) : List (List Int) := mkIntss k (l.take i) ++ l.drop i
theorem mkssTo_length (k : Int) (l : List (List Int)) (i : Nat) : (mkssTo k l i).length = l.length := by
  simp [mkssTo, mkIntss_length]; omega
theorem mkssTo_succ (k : Int) (l : List (List Int)) (i : Nat) (hi : i < l.length) : mkssTo k l (i + 1) = (mkssTo k l i).set i (mkInts (k + lens (l.take i)) (l.getD i [])) := by
  unfold mkssTo
  rw [List.take_succ_eq_append_getElem hi, mkIntss_snoc, List.drop_eq_getElem_cons hi]
  have hl : (mkIntss k (l.take i)).length = i := by rw [mkIntss_length, List.length_take]; omega
  rw [List.set_append, if_neg (by omega), hl, Nat.sub_self, List.set_cons_zero, List.append_assoc, List.getD_eq_getElem?_getD, List.getElem?_eq_getElem hi]
  rfl
theorem mkssTo_zero (k : Int) (l : List (List Int)) : mkssTo k l 0 = l := by simp [mkssTo, mkIntss]
theorem mkssTo_all (k : Int) (l : List (List Int)) : mkssTo k l l.length = mkIntss k l := by simp [mkssTo]
theorem mkssTo_at (k : Int) (l : List (List Int)) (i : Nat) (hi : i < l.length) : (mkssTo k l i).getD i [] = l.getD i [] := by
  unfold mkssTo
  have hl : (mkIntss k (l.take i)).length = i := by rw [mkIntss_length, List.length_take]; omega
  rw [List.getD_eq_getElem?_getD, List.getElem?_append_right (by omega), hl, Nat.sub_self, List.getElem?_drop, Nat.add_zero, List.getD_eq_getElem?_getD]
theorem lens_take_succ (l : List (List Int)) (i : Nat) (hi : i < l.length) : lens (l.take (i + 1)) = lens (l.take i) + (l.getD i []).length := by
  rw [List.take_succ_eq_append_getElem hi, List.getD_eq_getElem?_getD, List.getElem?_eq_getElem hi]
  simp only [lens, List.map_append, List.sum_append, List.map_cons, List.map_nil, Option.getD_some]
  simp
theorem lens_take_le (l : List (List Int)) (i : Nat) : lens (l.take i) ≤ lens l := by
  conv => rhs; rw [← List.take_append_drop i l]
  simp only [lens, List.map_append, List.sum_append]
  omega

set_option maxHeartbeats 4000000 in
theorem markIntSS_X (v : Value) (l : List (List Int)) (k : Int) (B : Nat → Prop) (w : World) (h : (KX.slice 3 KX.int).Row 43 w B v l) (hk0 : 0 ≤ k) (hk : k + lens l ≤ 1000000000) (hl : l.length ≤ 1000000000) :
    Calls Try.prog 11 #[v, .int .i64 k] w fun e w' => e = .returned (.int .i64 (k + lens l)) ∧ (KX.slice 3 KX.int).Row 43 w' B v (mkIntss k l) ∧ Wrote B w w' := by
  obtain ⟨A, c, hc, hm, rfl⟩ : ∃ A c, l.length ≤ c ∧ c ≤ maxLen ∧ v = .slice A l.length c := by
    obtain ⟨A, c, hv, hc, hm, _⟩ := h
    exact ⟨A, c, hc, hm, hv⟩
  have HX := Aside0.mk h
  clear h
  go_enter Try.func11, Try.ntmps11
  go_wp2_with fail
  go_loopg [1, 5] l.length (fun gg v1 v5 wr => ∃ i : Nat, i ≤ l.length ∧ l.length - i ≤ gg ∧ v1 = .int .i64 (k + lens (l.take i)) ∧ v5 = .int .i64 i ∧ Aside0 ((KX.slice 3 KX.int).Row 43 wr B (.slice A l.length c) (mkssTo k l i)) ∧ Aside0 (Wrote B w wr))
  case atStart => exact ⟨0, by omega, by omega, by simp [lens], rfl, ⟨by rw [mkssTo_zero]; exact HX.out⟩, ⟨Wrote.refl _ _⟩⟩
  case round =>
    obtain ⟨i, hi, hg, rfl, rfl, HO, HW⟩ := hrel
    by_cases hlt : i < l.length
    · have hltz : (i : Int) < (l.length : Int) := by omega
      obtain ⟨g, c2, cur, f, cc, hv, hc2, hBg, hh, hcl, hcc, hxx, hback⟩ := KX.Row_elem HO.out [] i (by rw [mkssTo_length]; exact hlt)
      injection hv with hA hv2 hv3
      clear hv2 hv3
      subst hA
      obtain ⟨vi, rfl, hri⟩ := hxx
      have hcell : wr.cell? ⟨g, i, none⟩ = some vi := by
        refine (blk_cell hh i).trans ?_
        have := hcc 0 vi rfl
        simpa [show (KX.slice 3 KX.int).sz = 1 from rfl] using this
      rw [mkssTo_at k l i hlt] at hri
      have hle := lens_take_le l (i + 1)
      rw [lens_take_succ l i hlt] at hle
      have hsum := lens_take_succ l i hlt
      have HC := Aside0.mk (markIntS_X vi (l.getD i []) (k + lens (l.take i)) (fun k => B k ∧ k ≠ g ∧ f k = i) wr hri (by omega) (by omega))
      obtain ⟨Ai, ci, hvi, _, _, _⟩ := hri
      subst hvi
      have HS := Aside0.mk (mkssTo_succ k l i hlt)
      have HSUM := Aside0.mk hsum
      have HB := Aside0.mk hback
      have HH := Aside0.mk hh
      have HCC := Aside0.mk hcc
      clear hback hh hcc hsum
      generalize l.getD i [] = y at HC HS HSUM hle hcell HB HCC
      go_wp2_with (go_at_call 21; refine HC.out.mono ?_; rintro e w3 ⟨rfl, hr3, hw3⟩; have HR3 := Aside0.mk hr3; have HW3 := Aside0.mk hw3; clear hr3 hw3)
      go_roundg (l.length - (i + 1))
      case measure => omega
      case rel =>
        refine ⟨i + 1, by omega, by omega, by rw [HSUM.out]; simp; omega, by go_num, ⟨?_⟩, ⟨HW.out.trans (HW3.out.mono fun k hk _ => hk.1)⟩⟩
        rw [HS.out]
        exact HB.out _ cur [_] _ ((HW3.out.block g (blk_lt HH.out) (fun hk => hk.2.1 rfl)).trans HH.out) rfl (fun j u hu => HCC.out j u hu) (fun _ _ => rfl) ⟨_, rfl, HR3.out⟩ (fun q hq hne hf hlt => HW3.out.block q hlt (fun hk => hf hk.2.2))
    · have hltz : ¬ (i : Int) < (l.length : Int) := by omega
      have hi2 : i = l.length := by omega
      subst hi2
      have ht : l.take l.length = l := List.take_length
      rw [ht]
      clear ht
      go_wp2_with fail
      go_ret
      exact ⟨rfl, by rw [mkssTo_all] at HO; exact HO.out, HW.out⟩
end Go.Proofs.Ytmfagnalnooppaa.Q
