/- Lemmas for this claim: words and contracts of the print, cut down by a program to what is used, and our own texts (part 3). -/
import Derived.Test.YtbnmkikifjidjaaY1
import Derived.Test.YtbnmkikifjidjaaY2
section
/- Values of one's own that are written in place: each row's block is its own, a row without elements has none. -/
namespace Go.Proofs.Ytbnmkikifjidjaa.Q
open Go.RowKit Go.Proofs.YtbnmkikifjidjaaW.PrintWords Go.Proofs.YtbnmkikifjidjaaW.PrintLast
set_option linter.unusedVariables false
set_option linter.unusedSimpArgs false

/-- A kind with what is owned: X w B x cs: the cells cs are x; what they lead to lies in blocks of B, each led to once. -/
structure KX (α : Type) extends Kd α where
 X : World → (Nat → Prop) → α → List Value → Prop
 X_K : ∀ {w B x cs}, X w B x cs → K w x cs
 X_mono : ∀ {w : World} {B B' : Nat → Prop} {x cs}, (∀ k, B k → B' k) → X w B x cs → X w B' x cs
 X_move : ∀ {w w1 : World} {B x cs}, (∀ k, B k → k < w.heap.size → w1.heap[k]? = w.heap[k]?) → X w B x cs → X w1 B x cs
 X_bound : ∀ {w : World} {B x cs}, X w B x cs → X w (fun k => B k ∧ k < w.heap.size) x cs

namespace KX
variable {α β : Type}
def scalar (enc : α → Value) (h1 : ∀ x, (enc x).oneCell' = true) : KX α where
 toKd := Kd.scalar enc h1
 X := fun _ _ x cs => cs = [enc x]
 X_K := fun h => h
 X_mono := fun _ h => h
 X_move := fun _ h => h
 X_bound := fun h => h
def int : KX Int := scalar (Value.int .i64) (fun _ => rfl)
def pair (a : KX α) (b : KX β) : KX (α × β) where
 toKd := Kd.pair a.toKd b.toKd
 X := fun w B x cs => ∃ c0 c1, cs = c0 ++ c1 ∧ ∃ f : Nat → Bool, a.X w (fun k => B k ∧ f k = true) x.1 c0 ∧ b.X w (fun k => B k ∧ f k = false) x.2 c1
 X_K := by
  rintro w B x cs ⟨c0, c1, rfl, f, h0, h1⟩
  exact ⟨c0, c1, rfl, a.X_K h0, b.X_K h1⟩
 X_mono := by
  rintro w B B' x cs hB ⟨c0, c1, rfl, f, h0, h1⟩
  exact ⟨c0, c1, rfl, f, a.X_mono (fun k hk => ⟨hB k hk.1, hk.2⟩) h0, b.X_mono (fun k hk => ⟨hB k hk.1, hk.2⟩) h1⟩
 X_move := by
  rintro w w1 B x cs hm ⟨c0, c1, rfl, f, h0, h1⟩
  exact ⟨c0, c1, rfl, f, a.X_move (fun k hk hl => hm k hk.1 hl) h0, b.X_move (fun k hk hl => hm k hk.1 hl) h1⟩
 X_bound := by
  rintro w B x cs ⟨c0, c1, rfl, f, h0, h1⟩
  exact ⟨c0, c1, rfl, f, a.X_mono (fun k hk => ⟨⟨hk.1.1, hk.2⟩, hk.1.2⟩) (a.X_bound h0), b.X_mono (fun k hk => ⟨⟨hk.1.1, hk.2⟩, hk.1.2⟩) (b.X_bound h1)⟩
def iso (d : KX α) (f : β → α) : KX β where
 toKd := Kd.iso d.toKd f
 X := fun w B x cs => d.X w B (f x) cs
 X_K := fun h => d.X_K h
 X_mono := fun hB h => d.X_mono hB h
 X_move := fun hm h => d.X_move hm h
 X_bound := fun h => d.X_bound h
/-- A row: v's cells. -/
def Row (d : KX α) (e : Nat) (w : World) (B : Nat → Prop) (v : Value) (xs : List α) : Prop :=
 ∃ A c, v = .slice A xs.length c ∧ xs.length ≤ c ∧ c ≤ maxLen ∧ (0 < xs.length → ∃ (g : Nat) (cur : Array Value) (f : Nat → Nat), A = some ⟨g, 0, none⟩ ∧ B g ∧ w.heap[g]? = some (.cells cur e (0, 0)) ∧
  ∀ j p, xs[j]? = some p → ∃ cc, cc.length = d.sz ∧ (∀ i u, cc[i]? = some u → cur[j * d.sz + i]? = some u) ∧ d.X w (fun k => B k ∧ k ≠ g ∧ f k = j) p cc)
section
variable {d : KX α} {e : Nat} {w w1 : World} {B B' : Nat → Prop} {v : Value} {xs : List α}
theorem Row_reads (h : Row d e w B v xs) : ∃ A c, v = .slice A xs.length c ∧ xs.length ≤ c ∧ d.C w A xs.length xs := by
 obtain ⟨A, c, hv, hc, hm, hr⟩ := h
 refine ⟨A, c, hv, hc, rfl, by simp only [maxLen] at hm; omega, fun hp => ?_⟩
 obtain ⟨g, cur, f, rfl, hg, hh, hel⟩ := hr hp
 refine ⟨_, rfl, fun j p hj => ?_⟩
 obtain ⟨cc, hl, hcc, hx⟩ := hel j p hj
 refine ⟨cc, hl, d.X_K hx, fun i u hu => ?_⟩
 rw [add_plain]
 exact (blk_cell hh _).trans (hcc i u hu)
theorem Row_mono (hB : ∀ k, B k → B' k) (h : Row d e w B v xs) : Row d e w B' v xs := by
 obtain ⟨A, c, hv, hc, hm, hr⟩ := h
 refine ⟨A, c, hv, hc, hm, fun hp => ?_⟩
 obtain ⟨g, cur, f, hA, hg, hh, hel⟩ := hr hp
 refine ⟨g, cur, f, hA, hB g hg, hh, fun j p hj => ?_⟩
 obtain ⟨cc, hl, hcc, hx⟩ := hel j p hj
 exact ⟨cc, hl, hcc, d.X_mono (fun k hk => ⟨hB k hk.1, hk.2⟩) hx⟩
theorem Row_move (hm : ∀ k, B k → k < w.heap.size → w1.heap[k]? = w.heap[k]?) (h : Row d e w B v xs) : Row d e w1 B v xs := by
 obtain ⟨A, c, hv, hc, hmx, hr⟩ := h
 refine ⟨A, c, hv, hc, hmx, fun hp => ?_⟩
 obtain ⟨g, cur, f, hA, hg, hh, hel⟩ := hr hp
 refine ⟨g, cur, f, hA, hg, (hm g hg (blk_lt hh)).trans hh, fun j p hj => ?_⟩
 obtain ⟨cc, hl, hcc, hx⟩ := hel j p hj
 exact ⟨cc, hl, hcc, d.X_move (fun k hk hl => hm k hk.1 hl) hx⟩
theorem Row_bound (h : Row d e w B v xs) : Row d e w (fun k => B k ∧ k < w.heap.size) v xs := by
 obtain ⟨A, c, hv, hc, hmx, hr⟩ := h
 refine ⟨A, c, hv, hc, hmx, fun hp => ?_⟩
 obtain ⟨g, cur, f, hA, hg, hh, hel⟩ := hr hp
 refine ⟨g, cur, f, hA, ⟨hg, blk_lt hh⟩, hh, fun j p hj => ?_⟩
 obtain ⟨cc, hl, hcc, hx⟩ := hel j p hj
 exact ⟨cc, hl, hcc, d.X_mono (fun k hk => ⟨⟨hk.1.1, hk.2⟩, hk.1.2⟩) (d.X_bound hx)⟩
theorem Row_below (h : Row d e w B v xs) (hb : Below w.heap.size w w1) : Row d e w1 B v xs := Row_move (fun k _ hl => hb.block k hl) h
/-- A row without elements, wherever it lies. -/
theorem Row_none (A : Option Addr) (c : Nat) (hc : c ≤ maxLen) : Row d e w B (.slice A 0 c) ([] : List α) := ⟨A, c, rfl, Nat.zero_le _, hc, fun h => absurd h (Nat.lt_irrefl _)⟩
theorem Row_nil : Row d e w B (.slice none 0 0) ([] : List α) := Row_none none 0 (Nat.zero_le _)
end
def slice (e : Nat) (d : KX α) : KX (List α) where
 toKd := Kd.slice e d.toKd
 X := fun w B xs cs => ∃ v, cs = [v] ∧ Row d e w B v xs
 X_K := by
  rintro w B x cs ⟨v, rfl, h⟩
  obtain ⟨A, c, rfl, hc, hr⟩ := Row_reads h
  exact ⟨A, c, rfl, hc, hr⟩
 X_mono := by
  rintro w B B' x cs hB ⟨v, rfl, h⟩
  exact ⟨v, rfl, Row_mono hB h⟩
 X_move := by
  rintro w w1 B x cs hm ⟨v, rfl, h⟩
  exact ⟨v, rfl, Row_move hm h⟩
 X_bound := by
  rintro w B x cs ⟨v, rfl, h⟩
  exact ⟨v, rfl, Row_bound h⟩

/-! ### an element taken and given back -/
section
variable {d : KX α} {e : Nat} {w w1 : World} {B B' : Nat → Prop} {v : Value} {xs : List α}
/-- Element i of a row: its block and cells; what it leads to lies in blocks of its own; and how it is given back. -/
theorem Row_elem (h : Row d e w B v xs) (z : α) (i : Nat) (hi : i < xs.length) :
  ∃ (g c : Nat) (cur : Array Value) (f : Nat → Nat) (cc : List Value), v = .slice (some ⟨g, 0, none⟩) xs.length c ∧ xs.length ≤ c ∧ B g ∧ w.heap[g]? = some (.cells cur e (0, 0)) ∧ cc.length = d.sz ∧ (∀ j u, cc[j]? = some u → cur[i * d.sz + j]? = some u) ∧ d.X w (fun k => B k ∧ k ≠ g ∧ f k = i) (xs.getD i z) cc ∧
   ∀ (w1 : World) (cur1 : Array Value) (cc1 : List Value) (y : α), w1.heap[g]? = some (.cells cur1 e (0, 0)) → cc1.length = d.sz → (∀ j u, cc1[j]? = some u → cur1[i * d.sz + j]? = some u) →
    (∀ q, (q < i * d.sz ∨ i * d.sz + d.sz ≤ q) → cur1[q]? = cur[q]?) → d.X w1 (fun k => B k ∧ k ≠ g ∧ f k = i) y cc1 → (∀ k, B k → k ≠ g → f k ≠ i → k < w.heap.size → w1.heap[k]? = w.heap[k]?) → Row d e w1 B v (xs.set i y) := by
 obtain ⟨A, c, rfl, hc, hmx, hr⟩ := h
 obtain ⟨g, cur, f, rfl, hg, hh, hel⟩ := hr (by omega)
 obtain ⟨cc, hl, hcc, hx⟩ := hel i _ (List.getElem?_eq_getElem hi)
 refine ⟨g, c, cur, f, cc, rfl, hc, hg, hh, hl, hcc, by rw [List.getD_eq_getElem?_getD, List.getElem?_eq_getElem hi]; exact hx, ?_⟩
 intro w1 cur1 cc1 y hh1 hl1 hcc1 hout hx1 hoth
 refine ⟨_, c, by rw [List.length_set], by rw [List.length_set]; exact hc, hmx, fun _ => ⟨g, cur1, f, rfl, hg, hh1, fun j p hj => ?_⟩⟩
 by_cases hji : j = i
 ·subst hji
  rw [List.getElem?_set_self hi] at hj
  injection hj with hj
  subst hj
  exact ⟨cc1, hl1, hcc1, hx1⟩
 ·rw [List.getElem?_set_ne (Ne.symm hji)] at hj
  obtain ⟨c2, hl2, hcc2, hx2⟩ := hel j p hj
  refine ⟨c2, hl2, fun q u hu => ?_, d.X_move (fun k hk hlt => hoth k hk.1 hk.2.1 (by rw [hk.2.2]; exact hji) hlt) hx2⟩
  rw [hout _ ?_]
  ·exact hcc2 q u hu
  ·have hq : q < d.sz := by
    have := (List.getElem?_eq_some_iff.1 hu).1
    omega
   rcases Nat.lt_or_gt_of_ne hji with hlt | hgt
   ·left
    have : (j + 1) * d.sz ≤ i * d.sz := Nat.mul_le_mul_right _ hlt
    rw [Nat.add_mul, Nat.one_mul] at this
    omega
   ·right
    have : (i + 1) * d.sz ≤ j * d.sz := Nat.mul_le_mul_right _ hgt
    rw [Nat.add_mul, Nat.one_mul] at this
    omega
end

/-! ### out of what the print tells -/
section
variable {d : KX α} {e base : Nat} {w : World} {ok : Nat → Prop} {v : Value} {xs : List α}
/-- A row of the call's own, of elements that lead nowhere. -/
theorem Row_of_R (hflat : ∀ (W : World) (b : Nat) (o B : Nat → Prop) (x : α) (cs : List Value), d.M W b o x cs → d.X W B x cs) (h : d.toKd.R e w base ok v xs) : Row d e w ok v xs := by
 obtain ⟨h0, inner, ho, hr⟩ := h
 obtain ⟨hl, ho⟩ := ho
 rcases ho with ⟨rfl, hn⟩ | ⟨g, cap, cur, rfl, hb, hh, hnc, hcm, hcs, ht⟩
 ·have : xs = [] := List.eq_nil_of_length_eq_zero hn
  subst this
  exact Row_nil
 ·refine ⟨_, cap, rfl, hnc, hcm, fun hp => ⟨g, cur, fun _ => 0, rfl, h0 g (by simp [Value.ownBlock]), hh, fun j p hj => ?_⟩⟩
  have hjl := (List.getElem?_eq_some_iff.1 hj).1
  have h1 : j * d.sz + d.sz ≤ inner.length := by rw [hr.1, ← Nat.succ_mul]; exact Nat.mul_le_mul_right _ hjl
  refine ⟨(inner.drop (j * d.sz)).take d.sz, by rw [List.length_take, List.length_drop]; omega, fun i u hu => ?_, hflat _ _ _ _ _ _ (hr.2 j p hj)⟩
  rw [List.getElem?_take] at hu
  split at hu
  ·rw [List.getElem?_drop, ← ht, List.getElem?_take] at hu
   split at hu
   ·simpa using hu
   ·cases hu
  ·cases hu
/-- A row of the call's own whose elements lie apart. -/
theorem Row_of_S (hin : ∀ (W : World) (b : Nat) (o : Nat → Prop) (x : α) (cs : List Value), d.M W b o x cs → d.X W o x cs) (h : Kd.S d.toKd e w base ok v xs) : Row d e w ok v xs := by
 obtain ⟨f, h0, inner, ho, hr⟩ := h
 rw [List.length_zipIdx] at ho
 obtain ⟨hl, ho⟩ := ho
 rcases ho with ⟨rfl, hn⟩ | ⟨g, cap, cur, rfl, hb, hh, hnc, hcm, hcs, ht⟩
 ·have : xs = [] := List.eq_nil_of_length_eq_zero hn
  subst this
  exact Row_nil
 ·refine ⟨_, cap, rfl, hnc, hcm, fun hp => ⟨g, cur, f, rfl, h0 g (by simp [Value.ownBlock]), hh, fun j p hj => ?_⟩⟩
  have hjl := (List.getElem?_eq_some_iff.1 hj).1
  have hr1 := hr.1
  rw [List.length_zipIdx] at hr1
  have h1 : j * d.sz + d.sz ≤ inner.length := by rw [hr1, ← Nat.succ_mul]; exact Nat.mul_le_mul_right _ hjl
  have h2 := hr.2 j (p, j) (Kd.zip_at hj)
  refine ⟨(inner.drop (j * d.sz)).take d.sz, by rw [List.length_take, List.length_drop]; omega, fun i u hu => ?_, d.X_mono (fun k hk => ⟨hk.1.1, fun e => hk.1.2 (by rw [e]; rfl), hk.2⟩) (hin _ _ _ _ _ h2)⟩
  rw [List.getElem?_take] at hu
  split at hu
  ·rw [List.getElem?_drop, ← ht, List.getElem?_take] at hu
   split at hu
   ·simpa using hu
   ·cases hu
  ·cases hu
end
end KX

/-! ### what a writing call leaves -/
/-- All but the blocks of B (and what is new) is as it was. -/
structure Wrote (B : Nat → Prop) (w w' : World) : Prop where
 os : w'.os = w.os
 tape : w'.tape = w.tape
 output : w'.output = w.output
 size : w.heap.size ≤ w'.heap.size
 block : ∀ i, i < w.heap.size → ¬ B i → w'.heap[i]? = w.heap[i]?
namespace Wrote
variable {B B' : Nat → Prop} {w w1 w2 : World}
theorem refl (B : Nat → Prop) (w : World) : Wrote B w w := ⟨rfl, rfl, rfl, Nat.le_refl _, fun _ _ _ => rfl⟩
theorem trans (h : Wrote B w w1) (k : Wrote B w1 w2) : Wrote B w w2 := ⟨k.os.trans h.os, k.tape.trans h.tape, k.output.trans h.output, Nat.le_trans h.size k.size, fun i hi hn => (k.block i (Nat.lt_of_lt_of_le hi h.size) hn).trans (h.block i hi hn)⟩
theorem mono (h : Wrote B w w1) (hB : ∀ k, B k → k < w.heap.size → B' k) : Wrote B' w w1 := ⟨h.os, h.tape, h.output, h.size, fun i hi hn => h.block i hi (fun hb => hn (hB i hb hi))⟩
theorem below {base : Nat} {w0 : World} (h0 : Below base w0 w) (h : Wrote B w w1) (hB : ∀ k, B k → base ≤ k) (hb : base ≤ w.heap.size) : Below base w0 w1 :=
 ⟨h.os.trans h0.os, h.tape.trans h0.tape, h.output.trans h0.output, Nat.le_trans h0.size h.size, fun i hi => (h.block i (Nat.lt_of_lt_of_le hi hb) (fun hk => by have := hB i hk; omega)).trans (h0.block i hi)⟩
theorem setCell (g j : Nat) (u : Value) (hg : B g) : Wrote B w (w.setCell ⟨g, j, none⟩ u) := ⟨rfl, rfl, rfl, by simp, fun i hi hn => Below.heap_setCell w ⟨g, j, none⟩ u i (fun e => hn (by rw [e]; exact hg))⟩
end Wrote
end Go.Proofs.Ytbnmkikifjidjaa.Q
end
section
/- Contracts of a function, printed for this claim by a program of ours over the kit's print. -/
namespace Go.Proofs.Ytbnmkikifjidjaa.Q
open Go.RowKit Go.Proofs.YtbnmkikifjidjaaW.PrintWords Go.Proofs.YtbnmkikifjidjaaW.PrintLast Go.Proofs.YtbnmkikifjidjaaW.PrintMore
attribute [local go_sem] max2_int min2_int max_two min_two max_three min_three max_four min_four   -- for this text's walks alone
set_option linter.unusedVariables false
set_option linter.unusedSimpArgs false

/-! ### laws_heldIntS: function 80 -/
def laws_heldIntS.l0 : Nat → List Int → Int → Int → Option (Int)
 | 0, _, _, _ => none
 | k + 1, x0, x1, x5 => if x5 < (x0.length : Int) then (if 0 ≤ x5 then (if (rd x0 x5) = x1 then (laws_heldIntS.l0 k x0 (wrap64 (x1 + 1)) (wrap64 (x5 + 1))) else (some (-1))) else (none)) else (some x1)
def laws_heldIntS.f (k : Nat) (l0 : List Int) (a1 : Int) : Option (Int) := laws_heldIntS.l0 k l0 a1 0
set_option maxHeartbeats 8000000 in
set_option maxRecDepth 100000 in
theorem laws_heldIntS.calls (k : Nat) (A0 : Option Addr) (c0 : Nat) (l0 : List Int) (a1 : Int) (r : Int) (w : World) (hr0 : Kd.C (Kd.int .i64) w A0 l0.length l0) (hc0 : l0.length ≤ c0) (h : laws_heldIntS.f k l0 a1 = some r) :
  Calls Try.prog 80 #[.slice A0 l0.length c0, .int .i64 a1] w fun e w' => e = .returned (.int .i64 r) ∧ Drawn0 w w' := by
 have HR0 := Aside0.mk hr0
 have HC0 := Aside0.mk hc0
 clear hr0 hc0
 have H : (laws_heldIntS.l0 k l0 a1 0) = some r := h
 clear h
 have H' := Aside0.mk H
 clear H
 go_enter Try.func80, Try.ntmps80
 go_wp2
 go_loopg [1, 5] k (fun kq v1 v5 w' => ∃ (x1_1 : Int) (x5_1 : Int), v1 = .int .i64 x1_1 ∧ v5 = .int .i64 x5_1 ∧ Aside0 (laws_heldIntS.l0 kq l0 x1_1 x5_1 = some r) ∧ Aside0 (kq ≤ k) ∧ Drawn0 w w')
 case atStart => exact ⟨(a1), (0), (by first | rfl | (simp; done) | (simp [*]; done)), (by first | rfl | (simp; done) | (simp [*]; done)), H', ⟨Nat.le_refl _⟩, by repeat (first | exact Drawn0.refl _ | apply Drawn0.step)⟩
 case round =>
  clear H'
  try clear p2
  obtain ⟨x1_1, x5_1, rfl, rfl, HA, HK1, ⟨m1, rfl⟩⟩ := hrel
  cases gk with
  | zero => exact absurd HA.out (by simp [laws_heldIntS.l0])
  | succ k1 =>
   have H := HA.out
   clear HA
   simp only [laws_heldIntS.l0] at H
   by_cases c3 : x5_1 < (l0.length : Int)
   ·rw [if_pos c3] at H
    have c3b0 : decide (x5_1 < (l0.length : Int)) = true := decide_eq_true c3
    clear c3
    by_cases c4 : 0 ≤ x5_1
    ·rw [if_pos c4] at H
     have c4b0 : decide (0 ≤ x5_1) = true := decide_eq_true c4
     clear c4
     by_cases c5 : (rd l0 x5_1) = x1_1
     ·rw [if_pos c5] at H
      have c5b0 : ((rd l0 x5_1) == x1_1) = true := beq_iff_eq.mpr c5
      have c5b1 : ((rd l0 x5_1) != x1_1) = false := bne_eq_false_iff_eq.mpr c5
      clear c5
      have H' := Aside0.mk H
      clear H
      have p101 : 0 ≤ (x5_1 : Int) := of_decide_eq_true (by first | (with_reducible assumption) | assumption)
      have q101 : x5_1 < (l0.length : Int) := of_decide_eq_true (by first | (with_reducible assumption) | assumption)
      obtain ⟨ad101, e101, hx101_0⟩ := Kd.at_int HR0.out x5_1 p101 q101
      cases e101
      replace p101 := eq_true p101
      replace q101 := eq_true q101
      go_wp2
      go_roundg k1
      case measure => have := HK1.out; omega
      case rel => exact ⟨(wrap64 (x1_1 + 1)), (wrap64 (x5_1 + 1)), (by first | rfl | (simp; done) | (simp [*]; done)), (by first | rfl | (simp; done) | (simp [*]; done)), H', ⟨by have := HK1.out; omega⟩, by repeat (first | exact Drawn0.refl _ | apply Drawn0.step)⟩
     ·rw [if_neg c5] at H
      have c5b0 : ((rd l0 x5_1) == x1_1) = false := beq_eq_false_iff_ne.mpr c5
      have c5b1 : ((rd l0 x5_1) != x1_1) = true := bne_iff_ne.mpr c5
      obtain rfl := Option.some.inj H
      have p101 : 0 ≤ (x5_1 : Int) := of_decide_eq_true (by first | (with_reducible assumption) | assumption)
      have q101 : x5_1 < (l0.length : Int) := of_decide_eq_true (by first | (with_reducible assumption) | assumption)
      obtain ⟨ad101, e101, hx101_0⟩ := Kd.at_int HR0.out x5_1 p101 q101
      cases e101
      replace p101 := eq_true p101
      replace q101 := eq_true q101
      go_wp2
      go_ret
      exact ⟨by first | rfl | (simp; done) | (simp [*]; done), by repeat (first | exact Drawn0.refl _ | apply Drawn0.step)⟩
    ·rw [if_neg c4] at H
     exact absurd H (by simp)
   ·rw [if_neg c3] at H
    have c3b0 : decide (x5_1 < (l0.length : Int)) = false := decide_eq_false c3
    clear c3
    obtain rfl := Option.some.inj H
    go_wp2
    go_ret
    exact ⟨by first | rfl | (simp; done) | (simp [*]; done), by repeat (first | exact Drawn0.refl _ | apply Drawn0.step)⟩

end Go.Proofs.Ytbnmkikifjidjaa.Q
end
section
/- The marks: each cell gets a number of its own. -/
namespace Go.Proofs.Ytbnmkikifjidjaa.Q
open Go.RowKit Go.Proofs.YtbnmkikifjidjaaW.PrintWords Go.Proofs.YtbnmkikifjidjaaW.PrintLast
set_option linter.unusedVariables false
set_option linter.unusedSimpArgs false

def mkInts (k : Int) : List Int → List Int
 | [] => []
 | _ :: l => k :: mkInts (k + 1) l
theorem mkInts_length (k : Int) (l : List Int) : (mkInts k l).length = l.length := by
 induction l generalizing k with
 | nil => rfl
 | cons x l ih => simp [mkInts, ih]
/-- The first i elements marked. -/
def mkTo (k : Int) (l : List Int) (i : Nat) : List Int := mkInts k (l.take i) ++ l.drop i
theorem mkTo_length (k : Int) (l : List Int) (i : Nat) : (mkTo k l i).length = l.length := by
 simp [mkTo, mkInts_length]; omega
theorem mkInts_snoc (k : Int) (l : List Int) (x : Int) : mkInts k (l ++ [x]) = mkInts k l ++ [k + l.length] := by
 induction l generalizing k with
 | nil => simp [mkInts]
 | cons y l ih => simp [mkInts, ih]; omega
theorem mkTo_succ (k : Int) (l : List Int) (i : Nat) (hi : i < l.length) : mkTo k l (i + 1) = (mkTo k l i).set i (k + i) := by
 unfold mkTo
 rw [List.take_succ_eq_append_getElem hi, mkInts_snoc, List.drop_eq_getElem_cons hi, List.length_take, Nat.min_eq_left (by omega)]
 have hl : (mkInts k (l.take i)).length = i := by rw [mkInts_length, List.length_take]; omega
 rw [List.set_append, if_neg (by omega), hl, Nat.sub_self, List.set_cons_zero, List.append_assoc]
 rfl
theorem mkTo_zero (k : Int) (l : List Int) : mkTo k l 0 = l := by simp [mkTo, mkInts]
theorem mkTo_all (k : Int) (l : List Int) : mkTo k l l.length = mkInts k l := by simp [mkTo]

set_option maxHeartbeats 4000000 in
theorem markIntS_X (v : Value) (l : List Int) (k : Int) (B : Nat → Prop) (w : World) (h : KX.int.Row 3 w B v l) (hk0 : 0 ≤ k) (hk : k + l.length ≤ 1000000000) :
  Calls Try.prog 50 #[v, .int .i64 k] w fun e w' => e = .returned (.int .i64 (k + l.length)) ∧ KX.int.Row 3 w' B v (mkInts k l) ∧ Wrote B w w' := by
 obtain ⟨A, c, hc, hm, rfl⟩ : ∃ A c, l.length ≤ c ∧ c ≤ maxLen ∧ v = .slice A l.length c := by
  obtain ⟨A, c, hv, hc, hm, _⟩ := h
  exact ⟨A, c, hc, hm, hv⟩
 have HX := Aside0.mk h
 clear h
 go_enter Try.func50, Try.ntmps50
 go_wp2_with fail
 go_loopg [1, 5] l.length (fun gg v1 v5 wr => ∃ i : Nat, i ≤ l.length ∧ l.length - i ≤ gg ∧ v1 = .int .i64 (k + i) ∧ v5 = .int .i64 i ∧ Aside0 (KX.int.Row 3 wr B (.slice A l.length c) (mkTo k l i)) ∧ Aside0 (Wrote B w wr))
 case atStart => exact ⟨0, by omega, by omega, by simp, rfl, ⟨by rw [mkTo_zero]; exact HX.out⟩, ⟨Wrote.refl _ _⟩⟩
 case round =>
  obtain ⟨i, hi, hg, rfl, rfl, HO, HW⟩ := hrel
  by_cases hlt : i < l.length
  ·have hltz : (i : Int) < (l.length : Int) := by omega
   obtain ⟨g, c2, cur, f, cc, hv, hc2, hBg, hh, hcl, hcc, hxx, hback⟩ := KX.Row_elem HO.out 0 i (by rw [mkTo_length]; exact hlt)
   injection hv with hA hv2 hv3
   clear hv2 hv3
   subst hA
   have hcell : wr.cell? ⟨g, i, none⟩ = some (.int .i64 ((mkTo k l i).getD i 0)) := by
    refine (blk_cell hh i).trans ?_
    have := hcc 0 (.int .i64 ((mkTo k l i).getD i 0)) (by rw [show cc = _ from hxx]; rfl)
    simpa [show KX.int.sz = 1 from rfl] using this
   have hfr : wr.frozen? ⟨g, i, none⟩ = false := blk_frozen hh i
   have HY := Aside0.mk (show cc = [.int .i64 ((mkTo k l i).getD i 0)] from hxx)
   generalize (mkTo k l i).getD i 0 = y0 at hcell HY
   have HB := Aside0.mk hback
   have HH := Aside0.mk hh
   have HCC := Aside0.mk hcc
   clear hback hh hcc hxx
   go_wp2_with fail
   go_roundg (l.length - (i + 1))
   case measure => omega
   case rel =>
    refine ⟨i + 1, by omega, by omega, by simp; omega, by go_num, ⟨?_⟩, ⟨HW.out.trans (Wrote.setCell _ _ _ hBg)⟩⟩
    rw [mkTo_succ k l i hlt]
    refine HB.out _ (cur.setIfInBounds i (.int .i64 (k + i))) [.int .i64 (k + i)] (k + i) (blk_set HH.out i _) rfl ?_ ?_ rfl ?_
    ·intro j u hu
     have hj : j = 0 := by
      have := (List.getElem?_eq_some_iff.1 hu).1
      simp at this; exact this
     subst hj
     have hq := HCC.out 0 (.int .i64 y0) (by rw [HY.out]; rfl)
     have hsz : i < cur.size := by
      have := (Array.getElem?_eq_some_iff.1 hq).1
      simp [show KX.int.sz = 1 from rfl] at this; exact this
     simp at hu
     subst hu
     simp [show KX.int.sz = 1 from rfl, Array.getElem?_setIfInBounds, hsz]
    ·intro q hq
     rw [Array.getElem?_setIfInBounds, if_neg (by simp [show KX.int.sz = 1 from rfl] at hq; omega)]
    ·intro q hq hne _ _
     exact Below.heap_setCell _ _ _ _ hne
  ·have hltz : ¬ (i : Int) < (l.length : Int) := by omega
   have hi2 : i = l.length := by omega
   subst hi2
   go_wp2_with fail
   go_ret
   exact ⟨rfl, by rw [mkTo_all] at HO; exact HO.out, HW.out⟩

def kx28 : KX S28 := KX.iso (KX.slice 3 KX.int) (fun x : S28 => x.f0)
def kx30 : KX S30 := KX.iso (KX.pair kx28 (KX.pair KX.int KX.int)) (fun x : S30 => (x.f0, x.f1, x.f2))
def gcount (l : List S30) : Nat := (l.map fun g => g.f0.f0.length + 2).sum
theorem gcount_succ (l : List S30) (i : Nat) (hi : i < l.length) : gcount (l.take (i + 1)) = gcount (l.take i) + ((l.getD i z30).f0.f0.length + 2) := by
 rw [List.take_succ_eq_append_getElem hi]
 simp only [gcount, List.map_append, List.sum_append, List.getD_eq_getElem?_getD, List.getElem?_eq_getElem hi]
 simp
theorem gcount_le (l : List S30) (i : Nat) : gcount (l.take i) ≤ gcount l := by
 have h := congrArg gcount (List.take_append_drop i l)
 unfold gcount at h ⊢
 rw [List.map_append, List.sum_append] at h
 omega
set_option maxHeartbeats 8000000 in
/-- The mark on groups: what it returns; it writes into their own blocks alone. -/
theorem markGroupS_X (v : Value) (l : List S30) (k : Int) (B : Nat → Prop) (w : World) (h : kx30.Row 30 w B v l) (hk0 : 0 ≤ k) (hk : k + gcount l ≤ 1000000000) (hl : l.length ≤ 1000000000) :
  Calls Try.prog 15 #[v, .int .i64 k] w fun e w' => e = .returned (.int .i64 (k + gcount l)) ∧ Wrote B w w' := by
 obtain ⟨A, c, hc, hm, rfl⟩ : ∃ A c, l.length ≤ c ∧ c ≤ maxLen ∧ v = .slice A l.length c := by
  obtain ⟨A, c, hv, hc, hm, _⟩ := h
  exact ⟨A, c, hc, hm, hv⟩
 have HX := Aside0.mk h
 have hu30 := Try.underlying30
 have hu28 := Try.underlying28
 clear h
 go_enter Try.func15, Try.ntmps15
 go_wp2_with fail
 go_loopg [1, 5] l.length (fun gg v1 v5 wr => ∃ i : Nat, i ≤ l.length ∧ l.length - i ≤ gg ∧ v1 = .int .i64 (k + gcount (l.take i)) ∧ v5 = .int .i64 i ∧ Aside0 (∃ l', l'.length = l.length ∧ (∀ j, i ≤ j → l'.getD j z30 = l.getD j z30) ∧ kx30.Row 30 wr B (.slice A l.length c) l') ∧ Aside0 (Wrote B w wr))
 case atStart => exact ⟨0, by omega, by omega, by simp [gcount], rfl, ⟨l, rfl, fun _ _ => rfl, HX.out⟩, ⟨Wrote.refl _ _⟩⟩
 case round =>
  obtain ⟨i, hi, hg, rfl, rfl, HO, HW⟩ := hrel
  by_cases hlt : i < l.length
  ·have hltz : (i : Int) < (l.length : Int) := by omega
   obtain ⟨l', hl', hsame, hrow⟩ := HO.out
   obtain ⟨g, c2, cur, f, cc, hv, hc2, hBg, hh, hcl, hcc, hxx, hback⟩ := KX.Row_elem hrow z30 i (by omega)
   injection hv with hA hv2 hv3
   clear hv2 hv3
   subst hA
   rw [hsame i (Nat.le_refl _)] at hxx
   have hsum := gcount_succ l i hlt
   have hle := gcount_le l (i + 1)
   rw [hsum] at hle
   generalize hy : l.getD i z30 = y at hxx hsum hle
   clear hy
   obtain ⟨cc0, cc1, rfl, fs, h0, h1⟩ := hxx
   obtain ⟨cc2, cc3, rfl, fs2, h2, h3⟩ := h1
   obtain rfl : cc2 = [.int .i64 y.f1] := h2
   obtain rfl : cc3 = [.int .i64 y.f2] := h3
   obtain ⟨v0, rfl, hr0⟩ := h0
   obtain ⟨A0, c0, rfl⟩ : ∃ A0 c0, v0 = .slice A0 y.f0.f0.length c0 := by
    obtain ⟨A0, c0, hv, _⟩ := hr0
    exact ⟨A0, c0, hv⟩
   have hsz : kx30.sz = 3 := rfl
   have q0 : cur[i * 3]? = some (.slice A0 y.f0.f0.length c0) := by have := hcc 0 (.slice A0 y.f0.f0.length c0) rfl; rw [hsz] at this; exact this
   have q1 : cur[i * 3 + 1]? = some (.int .i64 y.f1) := by have := hcc 1 (.int .i64 y.f1) rfl; rw [hsz] at this; exact this
   have q2 : cur[i * 3 + 2]? = some (.int .i64 y.f2) := by have := hcc 2 (.int .i64 y.f2) rfl; rw [hsz] at this; exact this
   have hc0 : wr.cell? ⟨g, i * 3, none⟩ = some (.slice A0 y.f0.f0.length c0) := (blk_cell hh _).trans q0
   have HC := Aside0.mk (markIntS_X _ y.f0.f0 (k + gcount (l.take i)) (fun k => (B k ∧ k ≠ g ∧ f k = i) ∧ fs k = true) wr hr0 (by omega) (by omega))
   have HSUM := Aside0.mk hsum
   have HB := Aside0.mk hback
   have HH := Aside0.mk hh
   have HQ := Aside0.mk (And.intro q0 (And.intro q1 q2))
   have HL := Aside0.mk (And.intro hl' hsame)
   clear hback hh hcc hsum q0 q1 q2 hrow HO hl' hsame hcl hr0
   go_wp2_with fail
   go_at_call 50; refine HC.out.mono ?_; rintro e w3 ⟨rfl, hr3, hw3⟩
   have hh3 := (hw3.block g (blk_lt HH.out) (fun hk => hk.1.2.1 rfl)).trans HH.out
   have c1 : w3.cell? ⟨g, i * 3 + 1, none⟩ = some (.int .i64 y.f1) := (blk_cell hh3 _).trans HQ.out.2.1
   have c2' : w3.cell? ⟨g, i * 3 + 2, none⟩ = some (.int .i64 y.f2) := (blk_cell hh3 _).trans HQ.out.2.2
   have f1 := blk_frozen hh3 (i * 3 + 1)
   have f2 := blk_frozen hh3 (i * 3 + 2)
   have HR3 := Aside0.mk hr3
   have HW3 := Aside0.mk hw3
   have HH3 := Aside0.mk hh3
   clear hr3 hw3 hh3 hc0 HC
   go_wp2_with fail
   go_roundg (l.length - (i + 1))
   case measure => omega
   case rel =>
    refine ⟨i + 1, by omega, by omega, by rw [HSUM.out]; simp; omega, by go_num, ⟨?_⟩, ⟨HW.out.trans ((((HW3.out.mono fun k hk _ => hk.1.1)).trans (Wrote.setCell _ _ _ hBg)).trans (Wrote.setCell _ _ _ hBg))⟩⟩
    generalize hu1 : Value.int .i64 (k + (gcount (l.take i) : Int) + (y.f0.f0.length : Int)) = u1
    generalize hu2 : Value.int .i64 (k + (gcount (l.take i) : Int) + (y.f0.f0.length : Int) + 1) = u2
    refine ⟨l'.set i ⟨⟨mkInts (k + (gcount (l.take i) : Int)) y.f0.f0⟩, k + (gcount (l.take i) : Int) + (y.f0.f0.length : Int), k + (gcount (l.take i) : Int) + (y.f0.f0.length : Int) + 1⟩, by rw [List.length_set]; exact HL.out.1, fun j hj => ?_, ?_⟩
    ·rw [List.getD_eq_getElem?_getD, List.getElem?_set_ne (by omega), ← List.getD_eq_getElem?_getD]
     exact HL.out.2 j (by omega)
    ·have hlen := HL.out.1
     have hs1 : i * 3 + 1 < cur.size := (Array.getElem?_eq_some_iff.1 HQ.out.2.1).1
     have hs2 : i * 3 + 2 < cur.size := (Array.getElem?_eq_some_iff.1 HQ.out.2.2).1
     have hsz : kx30.sz = 3 := rfl
     refine HB.out _ ((cur.setIfInBounds (i * 3 + 1) u1).setIfInBounds (i * 3 + 2) u2) [.slice A0 y.f0.f0.length c0, u1, u2] _ (blk_set (blk_set HH3.out (i * 3 + 1) u1) (i * 3 + 2) u2) rfl ?_ ?_ ?_ ?_
     ·intro j u hu
      rw [hsz]
      match j, hu with
      | 0, hu =>
       have := HQ.out.1
       simp only [List.getElem?_cons_zero] at hu
       rw [Array.getElem?_setIfInBounds_ne (by omega), Array.getElem?_setIfInBounds_ne (by omega)]
       exact this.trans hu
      | 1, hu =>
       simp only [List.getElem?_cons_succ, List.getElem?_cons_zero] at hu
       rw [Array.getElem?_setIfInBounds_ne (by omega), Array.getElem?_setIfInBounds, if_pos rfl, if_pos hs1]
       exact hu
      | 2, hu =>
       simp only [List.getElem?_cons_succ, List.getElem?_cons_zero] at hu
       rw [Array.getElem?_setIfInBounds, if_pos rfl, if_pos (by simpa using hs2)]
       exact hu
      | j + 3, hu => simp at hu
     ·intro q hq
      rw [hsz] at hq
      rw [Array.getElem?_setIfInBounds_ne (by omega), Array.getElem?_setIfInBounds_ne (by omega)]
     ·refine ⟨[.slice A0 y.f0.f0.length c0], [u1, u2], rfl, fs, ⟨_, rfl, ?_⟩, ⟨[u1], [u2], rfl, fun _ => true, by rw [← hu1]; rfl, by rw [← hu2]; rfl⟩⟩
      have h3 := HR3.out
      refine KX.Row_move (fun q hq hlt => ?_) h3
      rw [Below.heap_setCell _ _ _ _ hq.1.2.1, Below.heap_setCell _ _ _ _ hq.1.2.1]
     ·intro q hq hne hf hlt2
      rw [Below.heap_setCell _ _ _ _ hne, Below.heap_setCell _ _ _ _ hne]
      exact HW3.out.block q hlt2 (fun hk => hf hk.1.2.2)
  ·have hltz : ¬ (i : Int) < (l.length : Int) := by omega
   have hi2 : i = l.length := by omega
   subst hi2
   have ht : l.take l.length = l := List.take_length
   rw [ht]
   clear ht
   go_wp2_with fail
   go_ret
   exact ⟨rfl, HW.out⟩
end Go.Proofs.Ytbnmkikifjidjaa.Q
end
section
/- Contracts of a function, printed for this claim by a program of ours over the kit's print. -/
namespace Go.Proofs.Ytbnmkikifjidjaa.Q
open Go.RowKit Go.Proofs.YtbnmkikifjidjaaW.PrintWords Go.Proofs.YtbnmkikifjidjaaW.PrintLast Go.Proofs.YtbnmkikifjidjaaW.PrintMore
attribute [local go_sem] max2_int min2_int max_two min_two max_three min_three max_four min_four   -- for this text's walks alone
set_option linter.unusedVariables false
set_option linter.unusedSimpArgs false

/-! ### spec_l2OwnRow: function 41 -/
def spec_l2OwnRow.f (l0_0 : List Int) : Option (List Int) := (some (([] : List Int) : List Int)).bind fun y103 => (if y103.length + l0_0.length < 17592186044416 then (some (y103 ++ l0_0)) else (none))
set_option maxHeartbeats 8000000 in
set_option maxRecDepth 100000 in
theorem spec_l2OwnRow.calls (A0_0 : Option Addr) (c0_0 : Nat) (l0_0 : List Int) (r : List Int) (w : World) (hr0_0 : Kd.C (Kd.int .i64) w A0_0 l0_0.length l0_0) (hc0_0 : l0_0.length ≤ c0_0) (h : spec_l2OwnRow.f l0_0 = some r) :
  Calls Try.prog 41 #[.agg #[.slice A0_0 l0_0.length c0_0]] w fun e w' => ∃ v0_ : Value, e = .returned (.agg #[v0_]) ∧ Kd.R (Kd.int .i64) 3 w' w.heap.size (fun _ => True) v0_ r ∧ Below w.heap.size w w' := by
 have hu28 := Try.underlying28
 have HR0_0 := Aside0.mk hr0_0
 have HC0_0 := Aside0.mk hc0_0
 clear hr0_0 hc0_0
 have HB := Aside0.mk (Below.refl w.heap.size w)
 have H : ((some (([] : List Int) : List Int)).bind fun y103 => (if y103.length + l0_0.length < 17592186044416 then (some (y103 ++ l0_0)) else (none))) = some r := h
 clear h
 obtain ⟨y103, hy103⟩ : ∃ y_ : List Int, y_ = (([] : List Int)) := ⟨_, rfl⟩
 replace H : (if y103.length + l0_0.length < 17592186044416 then (some (y103 ++ l0_0)) else (none)) = some r := by first | (rw [hy103]; with_reducible exact H) | (have H2_ := (Option.bind_some _ _).symm.trans H; rw [hy103]; with_reducible exact H2_) | (have H2_ := (Option.bind_some _ _).symm.trans H; with_reducible exact H2_) | with_reducible exact H | (rw [hy103]; exact H) | exact H
 have Ny103 := Aside0.mk hy103
 clear hy103
 by_cases c2 : y103.length + l0_0.length < 17592186044416
 ·rw [if_pos c2] at H
  have LMc2 := Aside0.mk c2
  clear c2
  obtain ⟨y106, hy106⟩ : ∃ y_ : List Int, y_ = (y103 ++ l0_0) := ⟨_, rfl⟩
  replace H : (some y106) = some r := by first | (rw [hy106]; with_reducible exact H) | (have H2_ := (Option.bind_some _ _).symm.trans H; rw [hy106]; with_reducible exact H2_) | (have H2_ := (Option.bind_some _ _).symm.trans H; with_reducible exact H2_) | with_reducible exact H | (rw [hy106]; exact H) | exact H
  have Ny106 := Aside0.mk hy106
  clear hy106
  obtain rfl := Option.some.inj H
  go_enter Try.func41, Try.ntmps41
  go_wp2_with (first | ((with_reducible refine gate_dst (N := 1) rfl ?_); refine box_event ?hg (N := 1) ?hd (cs := #[.slice A0_0 l0_0.length c0_0]) (t := 28) ?hr ?_; (case hd => rfl); (case hg => rfl); (case hr => first | (go_simp; done) | (go_simp; rfl)); intro gb101 hg w3 hbox hb; have n0_ := Aside0.mk (below_step (by repeat (first | (with_reducible first | exact HB.out | apply below_alloc | apply pw_below_drewN | apply below_drew1) | exact HB.out)) hb); have n1_ := Aside0.mk (hbox); have n2_ := Aside0.mk ((by rw [hg]; exact (below_size (by repeat (first | (with_reducible first | exact HB.out | apply below_alloc | apply pw_below_drewN | apply below_drew1) | exact HB.out))) : w.heap.size ≤ gb101)); have n3_ := Aside0.mk ((by rw [hg]; exact (below_size (by repeat (first | (with_reducible first | exact HB.out | apply below_alloc | apply pw_below_drewN | apply below_drew1) | exact HB.out))) : w.heap.size ≤ gb101)); clear HB; have HB := n0_; have BK101 := n1_; have GW101 := n2_; have GE101 := n3_; clear n0_ n1_ n2_ n3_; clear hb hbox hg) | ((with_reducible refine gate_dst (N := 2) rfl ?_); refine box_event ?hg (N := 2) ?hd (cs := #[.slice none 0 0]) (t := 28) ?hr ?_; (case hd => rfl); (case hg => rfl); (case hr => first | (go_simp; done) | (go_simp; rfl)); intro gb102 hg w4 hbox hb; have n0_ := Aside0.mk (blk_below (g := gb101) (o := .cells #[.slice A0_0 l0_0.length c0_0] 28 (0, 0)) (by (with_reducible repeat (first | refine blk_drewN ?_ _ | refine blk_drew ?_ | refine blk_alloc ?_ _)); exact BK101.out) hb); have n1_ := Aside0.mk (below_step (by repeat (first | (with_reducible first | exact HB.out | apply below_alloc | apply pw_below_drewN | apply below_drew1 | refine below_set ?_ GE101.out) | exact HB.out)) hb); have n2_ := Aside0.mk (hbox); have n3_ := Aside0.mk ((by rw [hg]; exact (below_size (by repeat (first | (with_reducible first | exact HB.out | apply below_alloc | apply pw_below_drewN | apply below_drew1 | refine below_set ?_ GE101.out) | exact HB.out))) : w.heap.size ≤ gb102)); have n4_ := Aside0.mk ((by rw [hg]; exact (below_size (by repeat (first | (with_reducible first | exact HB.out | apply below_alloc | apply pw_below_drewN | apply below_drew1 | refine below_set ?_ GE101.out) | exact HB.out))) : w.heap.size ≤ gb102)); have n5_ := Aside0.mk ((by rw [hg]; exact Nat.ne_of_lt (blk_lt (g := gb101) (o := .cells #[.slice A0_0 l0_0.length c0_0] 28 (0, 0)) (by (with_reducible repeat (first | refine blk_drewN ?_ _ | refine blk_drew ?_ | refine blk_alloc ?_ _)); exact BK101.out)) : gb101 ≠ gb102)); have n6_ := Aside0.mk ((by rw [hg]; exact Nat.ne_of_gt (blk_lt (g := gb101) (o := .cells #[.slice A0_0 l0_0.length c0_0] 28 (0, 0)) (by (with_reducible repeat (first | refine blk_drewN ?_ _ | refine blk_drew ?_ | refine blk_alloc ?_ _)); exact BK101.out)) : gb102 ≠ gb101)); clear BK101; clear HB; have BK101 := n0_; have HB := n1_; have BK102 := n2_; have GW102 := n3_; have GE102 := n4_; have NB101_102 := n5_; have NB102_101 := n6_; clear n0_ n1_ n2_ n3_ n4_ n5_ n6_; clear hb hbox hg) | ((with_reducible refine gate_dst (N := 3) rfl ?_); refine Kd.R_lit (Kd.int .i64) _ 3 ?hg (N := 3) ?hd (xs := ([] : List Int)) (inner := []) (ok := fun _ => True) (okp := fun _ => True) ?hr ?hp (fun _ hk => hk) trivial (Below.refl _ _) (Nat.le_refl _) (by simp) ?_; (case hd => rfl); (case hg => rfl); (case hr => first | (go_simp; done) | (go_simp; rfl)); (case hp => exact (Reps.none _ _)); intro v104 w5 ho6 hb hg_ hnew_; clear hg_ hnew_; (first | rw [← Ny103.out] at ho6 | (simp only [Int.reduceToNat] at ho6; rw [← Ny103.out] at ho6)); have n0_ := Aside0.mk (Kd.R_lower ho6 (below_size (by repeat (first | (with_reducible first | exact HB.out | apply below_alloc | apply pw_below_drewN | apply below_drew1 | refine below_set ?_ GE101.out | refine below_set ?_ GE102.out) | exact HB.out)))); have n1_ := Aside0.mk (blk_below (g := gb101) (o := .cells #[.slice A0_0 l0_0.length c0_0] 28 (0, 0)) (by (with_reducible repeat (first | refine blk_drewN ?_ _ | refine blk_drew ?_ | refine blk_alloc ?_ _)); exact BK101.out) hb); have n2_ := Aside0.mk (blk_below (g := gb102) (o := .cells #[.slice none 0 0] 28 (0, 0)) (by (with_reducible repeat (first | refine blk_drewN ?_ _ | refine blk_drew ?_ | refine blk_alloc ?_ _)); exact BK102.out) hb); have n3_ := Aside0.mk (below_step (by repeat (first | (with_reducible first | exact HB.out | apply below_alloc | apply pw_below_drewN | apply below_drew1 | refine below_set ?_ GE101.out | refine below_set ?_ GE102.out) | exact HB.out)) hb); clear BK101; clear BK102; clear HB; have HO105 := n0_; have BK101 := n1_; have BK102 := n2_; have HB := n3_; clear n0_ n1_ n2_ n3_; clear hb ho6; have hnb7 := NB101_102.out; have hnc7 := NB102_101.out; have hcz8_0 : w5.cell? ⟨gb101, 0, none⟩ = some (.slice A0_0 l0_0.length c0_0) := (blk_cell BK101.out 0).trans rfl; have hfz8_0 := blk_frozen BK101.out 0) | ((with_reducible refine gate_builtin (b := .append) (xs := #[.tmp 3, .tmp 5]) rfl ?_); at_builtin; refine Kd.R_append_rows (Kd.int .i64) (w0 := w) w.heap.size rfl (.tmp 3) (.tmp 5) 23 3 (.int .i64 0) 8 rfl Try.underlying23 info3 rfl (by decide) (by omega) v104 y103 l0_0 _ _ _ (fun _ => True) (fun _ => False) rfl rfl ?aO ?aR (fun _ _ h => h) (fun _ h => h.elim) ?aF ?aB ?aS ?aL ?_; (case aR => repeat (first | exact (Kd.C_below HR0_0.out HB.out) | (with_reducible refine Kd.C_alloc ?_ _) | (with_reducible refine Kd.C_drewN ?_ _) | (with_reducible refine Kd.C_drew ?_))); (case aB => exact (by repeat (first | (with_reducible first | exact HB.out | apply below_alloc | apply pw_below_drewN | apply below_drew1 | refine below_set ?_ GE101.out | refine below_set ?_ GE102.out) | exact HB.out))); (case aF => exact (fun _ _ => trivial)); (case aO => exact (by (with_reducible repeat (first | apply Kd.R_alloc | apply Kd.R_drewN | apply Kd.R_drew)); exact HO105.out)); (case aS => exact (below_size (by repeat (first | (with_reducible first | exact HB.out | apply below_alloc | apply pw_below_drewN | apply below_drew1 | refine below_set ?_ GE101.out | refine below_set ?_ GE102.out) | exact HB.out)))); (case aL => have := LMc2.out; omega); intro v107 w9 ho hb hg hat; rw [← Ny106.out] at ho; have n0_ := Aside0.mk (blk_grown (g := gb101) (o := .cells #[.slice A0_0 l0_0.length c0_0] 28 (0, 0)) (by (with_reducible repeat (first | refine blk_drewN ?_ _ | refine blk_drew ?_ | refine blk_alloc ?_ _)); exact BK101.out) hg (Kd.R_ne HO105.out BK101.out (by decide))); have n1_ := Aside0.mk (blk_grown (g := gb102) (o := .cells #[.slice none 0 0] 28 (0, 0)) (by (with_reducible repeat (first | refine blk_drewN ?_ _ | refine blk_drew ?_ | refine blk_alloc ?_ _)); exact BK102.out) hg (Kd.R_ne HO105.out BK102.out (by decide))); have n2_ := Aside0.mk (hb); have n3_ := Aside0.mk (ho); clear BK101; clear BK102; clear HB; clear HO105; have BK101 := n0_; have BK102 := n1_; have HB := n2_; have HO108 := n3_; clear n0_ n1_ n2_ n3_; clear ho hb hg hat; obtain ⟨Ao10, co10, eo10⟩ := Kd.R_slice HO108.out; subst eo10; have hcz11_0 : w9.cell? ⟨gb102, 0, none⟩ = some (.slice none 0 0) := (blk_cell BK102.out 0).trans rfl; have hfz11_0 := blk_frozen BK102.out 0))
  refine bodyPost_ret (results_cell_row rfl _ _ gb102 28 #[.slice Ao10 y106.length co10] (0, 0) _ rfl (by (with_reducible repeat (first | refine blk_drewN ?_ _ | refine blk_drew ?_ | refine blk_alloc ?_ _)); refine blk_put (cs := #[.slice none 0 0]) ?_ 0 _ rfl; (with_reducible repeat (first | refine blk_drewN ?_ _ | refine blk_drew ?_ | refine blk_alloc ?_ _)); exact BK102.out) Try.underlying28 rfl (by kernel_rfl)) rfl ?_
  exact ⟨_, by first | rfl | (simp [errW_none, errW_some] <;> rfl) | (simp [*, errW_none, errW_some] <;> rfl), by (with_reducible repeat (first | apply Kd.R_alloc | apply Kd.R_drewN | apply Kd.R_drew)); exact Kd.R_mono (Kd.R_far (p := ⟨gb102, 0, none⟩) (Kd.R_types HO108.out BK102.out (by decide)) (fun _ hk => hk.2) (.slice Ao10 y106.length co10)) (fun _ hk => trivial), by repeat (first | (with_reducible first | exact HB.out | apply below_alloc | apply pw_below_drewN | apply below_drew1 | refine below_set ?_ GE101.out | refine below_set ?_ GE102.out) | exact HB.out)⟩
 ·rw [if_neg c2] at H
  exact absurd H (by simp)

end Go.Proofs.Ytbnmkikifjidjaa.Q
end
section
/- Groups told good: the specification's test of a list of groups, as a plain function. -/
namespace Go.Proofs.Ytbnmkikifjidjaa.Q
open Go.RowKit Go.Proofs.YtbnmkikifjidjaaW.PrintWords Go.Proofs.YtbnmkikifjidjaaW.PrintLast
set_option linter.unusedVariables false
set_option linter.unusedSimpArgs false
theorem specGoodRow_any (A : Option Addr) (c : Nat) (x : List Int) (W : World) (h : Kd.C (Kd.int .i64) W A x.length x) (hc : x.length ≤ c) {b : Bool} (hb : goodRowB x = b) :
  Calls Try.prog 73 #[.agg #[.slice A x.length c]] W fun e w' => e = .returned (.bool b) ∧ Below W.heap.size W w' := by
 exact spec_GoodRow.calls (x.length + 1) A c x _ W h hc (hb ▸ specGoodRow_f x h.2.1 _ (Nat.lt_succ_self _))
theorem specSum_any (x : Int) (W : World) {b : Bool} (hb : sumB x = b) : Calls Try.prog 74 #[.int .i64 x] W fun e w' => e = .returned (.bool b) ∧ Below W.heap.size W w' :=
 (spec_l5Sum.calls x _ W (hb ▸ specSum_f x)).mono fun e w' h => ⟨h.1, h.2.below⟩
theorem specCompare_any (A A' : Option Addr) (c c' : Nat) (x y : List Int) (W : World) (hx : Kd.C (Kd.int .i64) W A x.length x) (hcx : x.length ≤ c) (hy : Kd.C (Kd.int .i64) W A' y.length y) (hcy : y.length ≤ c') (h1 : x.length ≤ 1000000000) (h2 : y.length ≤ 1000000000) :
  Calls Try.prog 40 #[.agg #[.slice A x.length c], .agg #[.slice A' y.length c']] W fun e w' => e = .returned (.int .i64 (cmpR x y)) ∧ Below W.heap.size W w' :=
 spec_l1Compare.calls (2 * x.length + 2) A c x A' c' y _ W hx hcx hy hcy (specCompare_f x y h1 h2 _ (Nat.lt_succ_self _))
def T39_4 : Bool × List (List Nat × List Nat) := (true, [([], []), ([0], [0]), ([1], [1]), ([2], [2]), ([3, 2], [3]), ([4], [4]), ([5, 4], [4, 5]), ([6, 4], [4, 6]), ([7, 4], [4, 7]), ([4], [4]), ([9, 4], [4, 9]), ([10, 4], [4, 10]), ([11, 4], [4, 11]), ([12, 4], [4, 12]), ([13, 4], [4, 13]), ([8, 14, 4], [4, 8, 14]), ([4, 15], [4, 15]), ([16, 4], [16]), ([17], [17]), ([18, 17], [17, 18]), ([19, 17, 17], [17, 19]), ([20, 17], [17, 20]), ([17, 21], [17, 21]), ([22, 20], [22]), ([23], [23]), ([24, 23], [23, 24]), ([25, 23, 23], [23, 25]), ([26, 23], [23, 26]), ([23, 27], [23, 27]), ([28, 26], [28]), ([29], [29]), ([30, 29], [29, 30]), ([31, 29], [29, 31]), ([32, 29, 29], [29, 32]), ([33], [33]), ([34, 33], [33, 34]), ([35, 33], [33, 35]), ([33, 36, 29], [29, 33, 36]), ([29, 37], [29, 37]), ([38, 33], [38]), ([39], [39]), ([40, 39], [39, 40]), ([41, 39, 39], [39, 41]), ([42], [42]), ([42], [42]), ([44, 42], [42, 44]), ([43, 45, 42], [42, 43, 45]), ([46, 42], [42, 46]), ([47, 42], [42, 47]), ([42], [42]), ([49, 42], [42, 49]), ([48, 50, 42, 42], [42, 48, 50]), ([51, 42], [42, 51]), ([42, 52, 39], [39, 42, 52]), ([39, 53], [39, 53])])
def B39_4 : List Nat := [0, 1, 3, 7, 15, 31, 63, 127, 255, 31, 543, 1567, 3615, 7711, 15903, 32767, 65535, 131071, 262143, 524287, 1048575, 2097151, 4194303, 8388607, 16777215, 33554431, 67108863, 134217727, 268435455, 536870911, 1073741823, 2147483647, 4294967295, 8589934591, 17179869183, 34359738367, 68719476735, 137438953471, 274877906943, 549755813887, 1099511627775, 2199023255551, 4398046511103, 8796093022207, 8796093022207, 26388279066623, 70368744177663, 140737488355327, 281474976710655, 8796093022207, 571746046443519, 2251799813685247, 4503599627370495, 9007199254740991, 18014398509481983]
theorem tab39_4 : rtab .any (opsOf Try.f39 4) = T39_4 := by kernel_rfl
theorem bits39_4 : waitsOk T39_4.2 B39_4 = true := by kernel_rfl
set_option maxHeartbeats 8000000 in
set_option maxRecDepth 100000 in
theorem specGoodGroups_calls (A : Option Addr) (c : Nat) (l : List S30) (w : World) (hr : Kd.C k30 w A l.length l) (hcap : l.length ≤ c) :
  Calls Try.prog 39 #[.slice A l.length c] w fun e w' => e = .returned (.bool (goodGroupsB l)) ∧ Below w.heap.size w w' := by
 have hbig : l.length ≤ 9223372036854775807 := hr.2.1
 have HR := Aside0.mk hr
 have HCAP := Aside0.mk hcap
 have hu30 := Try.underlying30
 clear hr hcap
 go_enter Try.func39, Try.ntmps39
 go_wp2
 go_loopg [7] l.length (fun gg v7 wr => ∃ kk : Nat, kk ≤ l.length ∧ l.length - kk ≤ gg ∧ v7 = .int .i64 kk ∧ Aside0 (Below w.heap.size w wr) ∧ Aside0 (∀ j, j < kk → gOK l j = true))
 case atStart => exact ⟨0, Nat.zero_le _, by omega, rfl, ⟨Below.refl _ w⟩, ⟨fun j hj => absurd hj (Nat.not_lt_zero _)⟩⟩
 case round =>
  obtain ⟨kk, hkk, hg, rfl, BW, F⟩ := hrel
  by_cases hlt : kk < l.length
  ·have hltz : (kk : Int) < (l.length : Int) := by omega
   obtain ⟨ad, A0_, c0_, e, hx0, hx1, hx2, hl0_, hC0_⟩ := at_T30 (Kd.C_below HR.out BW.out) (kk : Int) (by omega) hltz
   subst e
   have hy0 : rd_T30 l (kk : Int) = l.getD kk z30 := rfl
   rw [hy0] at hx0 hx1 hx2 hl0_ hC0_
   clear hy0
   simp only [Int.toNat_natCast] at hx0 hx1 hx2
   have HC := Aside0.mk (And.intro hl0_ hC0_)
   clear hl0_ hC0_
   have HP : Aside0 (0 < kk → ∃ A1 c1, (l.getD (kk - 1) z30).f0.f0.length ≤ c1 ∧ Kd.C (Kd.int .i64) wr A1 (l.getD (kk - 1) z30).f0.f0.length (l.getD (kk - 1) z30).f0.f0 ∧ wr.cell? (ad.add ((kk - 1) * 3)) = some (.slice A1 (l.getD (kk - 1) z30).f0.f0.length c1) ∧ (l.getD (kk - 1) z30).f0.f0.length ≤ 1000000000) := ⟨fun hpos => by
    obtain ⟨ad1, A1, c1, e, q0, _, _, q3, q4⟩ := at_T30 (Kd.C_below HR.out BW.out) ((kk : Int) - 1) (by omega) (by omega)
    obtain rfl := Option.some.inj e
    have hy0 : rd_T30 l ((kk : Int) - 1) = l.getD (kk - 1) z30 := by
     show l.getD ((kk : Int) - 1).toNat z30 = _
     rw [show ((kk : Int) - 1).toNat = kk - 1 from by omega]
    rw [hy0, show ((kk : Int) - 1).toNat = kk - 1 from by omega] at q0
    rw [hy0] at q3 q4
    refine ⟨A1, c1, q3, q4, q0, ?_⟩
    have hok := F.out (kk - 1) (by omega)
    unfold gOK at hok
    simp only [Bool.and_eq_true] at hok
    have := rowOf_len hok.1.1.1.1
    omega⟩
   have HZ : Aside0 (∃ A2 c2, (l.getD 0 z30).f0.f0.length ≤ c2 ∧ Kd.C (Kd.int .i64) wr A2 (l.getD 0 z30).f0.f0.length (l.getD 0 z30).f0.f0 ∧ wr.cell? ad = some (.slice A2 (l.getD 0 z30).f0.f0.length c2)) := ⟨by
    obtain ⟨ad1, A1, c1, e, q0, _, _, q3, q4⟩ := at_T30 (Kd.C_below HR.out BW.out) (0 : Int) (by omega) (by omega)
    obtain rfl := Option.some.inj e
    have hy0 : rd_T30 l (0 : Int) = l.getD 0 z30 := rfl
    rw [hy0] at q0 q3 q4
    exact ⟨A1, c1, q3, q4, by rw [← Addr.add_zero' ad]; exact q0⟩⟩
   have GR := fun y p hy hp => gOK_rw l kk y p hy hp
   generalize hy : l.getD kk z30 = y at hx0 hx1 hx2 HC GR
   generalize hp : l.getD (kk - 1) z30 = p at HP GR
   have GR := Aside0.mk (GR y p rfl rfl)
   clear hy hp
   go_upto_region 4 with fail
   have hA := heap_alloc_new wr (.cells #[.slice A0_ y.f0.f0.length c0_, .int .i64 y.f1, .int .i64 y.f2] 30)
   have hb : Below wr.heap.size wr (wr.alloc (.cells #[.slice A0_ y.f0.f0.length c0_, .int .i64 y.f1, .int .i64 y.f2] 30)) := (Below.refl _ wr).alloc (Nat.le_refl _) _
   have HB := Aside0.mk (below_then BW.out BW.out.size hb)
   have HCy := Aside0.mk (Kd.C_below HC.out.2 hb)
   have HP1 : Aside0 (0 < kk → ∃ A1 c1, p.f0.f0.length ≤ c1 ∧ Kd.C (Kd.int .i64) (wr.alloc (.cells #[.slice A0_ y.f0.f0.length c0_, .int .i64 y.f1, .int .i64 y.f2] 30)) A1 p.f0.f0.length p.f0.f0 ∧ (wr.alloc (.cells #[.slice A0_ y.f0.f0.length c0_, .int .i64 y.f1, .int .i64 y.f2] 30)).cell? (ad.add ((kk - 1) * 3)) = some (.slice A1 p.f0.f0.length c1) ∧ p.f0.f0.length ≤ 1000000000) := ⟨fun hpos => by
    obtain ⟨A1, c1, q1, q2, q3, q4⟩ := HP.out hpos
    exact ⟨A1, c1, q1, Kd.C_below q2 hb, pw_cell_below hb q3, q4⟩⟩
   obtain ⟨A2, c2, z1, z2, z3⟩ := HZ.out
   have hZ := Aside0.mk (And.intro z1 (And.intro (Kd.C_below z2 hb) (pw_cell_below hb z3)))
   clear z1 z2 z3 HZ
   clear hb HP hx0 hx1 hx2
   obtain ⟨n0, hn0⟩ : ∃ n : Nat, n = (l.getD 0 z30).f0.f0.length := ⟨_, rfl⟩
   rw [← hn0] at hZ
   have HK : Aside0 (key0 l = (n0 : Int)) := ⟨by rw [hn0]; rfl⟩
   have HN0 : Aside0 (∀ W', Kd.C (Kd.int .i64) W' A2 (l.getD 0 z30).f0.f0.length (l.getD 0 z30).f0.f0 → True) := ⟨fun _ _ => trivial⟩
   clear hn0
   generalize wr.heap.size = g at hA ⊢
   generalize wr.alloc (.cells #[.slice A0_ y.f0.f0.length c0_, .int .i64 y.f1, .int .i64 y.f2] 30) = W at hA HB HCy HP1 hZ ⊢
   have HL := Aside0.mk hltz
   clear hltz
   have HBW : Aside0 (Below W.heap.size W W.drew) := ⟨(Below.refl _ _).drew⟩
   have HA := Aside0.mk hA
   clear hA
   have hp0 : 0 < l.length := by omega
   have FIN : ∀ W', Below W.heap.size W W' → Aside0 (Below w.heap.size w W') := fun W' h => ⟨below_then HB.out HB.out.size h⟩
   have FIN := Aside0.mk FIN
   obtain ⟨A1, c1, hP1⟩ : ∃ A1 c1, Aside0 (0 < kk → p.f0.f0.length ≤ c1 ∧ Kd.C (Kd.int .i64) W A1 p.f0.f0.length p.f0.f0 ∧ W.cell? (ad.add ((kk - 1) * 3)) = some (.slice A1 p.f0.f0.length c1) ∧ p.f0.f0.length ≤ 1000000000) := by
    by_cases hpos : 0 < kk
    ·obtain ⟨A1, c1, q⟩ := HP1.out hpos
     exact ⟨A1, c1, ⟨fun _ => q⟩⟩
    ·exact ⟨none, 0, ⟨fun h => absurd h hpos⟩⟩
   clear HP1
   generalize hcv : cmpR p.f0.f0 y.f0.f0 = cv at GR
   have HCV := Aside0.mk hcv; clear hcv
   refine rS (S := fun w' => w'.cell? ⟨g, 0, none⟩ = some (.slice A0_ y.f0.f0.length c0_) ∧ w'.cell? ⟨g, 1, none⟩ = some (.int .i64 y.f1) ∧ w'.cell? ⟨g, 2, none⟩ = some (.int .i64 y.f2) ∧ w'.cell? ad = some (.slice A2 n0 c2) ∧ (0 < kk → w'.cell? (ad.add ((kk - 1) * 3)) = some (.slice A1 p.f0.f0.length c1))) tab39_4 bits39_4 (by kernel_rfl) rfl ⟨(cells3_ (blk_below HA.out HBW.out)).1, (cells3_ (blk_below HA.out HBW.out)).2.1, (cells3_ (blk_below HA.out HBW.out)).2.2, pw_cell_below HBW.out hZ.out.2.2, fun h => pw_cell_below HBW.out (hP1.out h).2.2.1⟩ (fun hS_ HT_ HW_ => ?_)
   refine rL 0 1 (N := some 12) (v := ?_) (a' := ?_) HT_ HW_ rfl rfl rfl (by kernel_rfl) (fun _ _ _ h => h) hS_ (by rfl) ?_ ?_ ?_; rotate_left 2; (rintro w' ⟨s0, s1, s2, s4, -⟩; go_simp; with_reducible rfl); (simp only [Act.put, List.setIfInBounds_toArray, List.set_cons_zero, List.set_cons_succ, i64_w, i32_w]; rfl)
   refine rL 1 2 (N := some 13) (v := ?_) (a' := ?_) HT_ HW_ rfl rfl rfl (by kernel_rfl) (fun _ _ _ h => h) hS_ (by rfl) ?_ ?_ ?_; rotate_left 2; (rintro w' ⟨s0, s1, s2, s4, -⟩; go_simp; with_reducible rfl); (simp only [Act.put, List.setIfInBounds_toArray, List.set_cons_zero, List.set_cons_succ, i64_w, i32_w]; rfl)
   cases b0 : goodRowB y.f0.f0 with
   | false =>
    refine one_ (i := 2) (N := some 14) (upR 55 3) rfl rfl (one_of HT_.out (by kernel_rfl)) (by decide) (fun K hK => ?_)
    refine goes_ Try.func73 (by kernel_rfl) rfl #[.agg #[.slice A0_ y.f0.f0.length c0_]] (by rfl) rfl rfl (by (try simp only [List.map_toArray, List.map_cons, List.map_nil]); first | done | rfl) ?_
    refine (specGoodRow_any _ _ _ _ (Kd.C_below HCy.out HBW.out) HC.out.1 b0).mono ?_
    rintro e w' ⟨rfl, hb_⟩
    refine ⟨_, rfl, ?_⟩
    have n_ := Aside0.mk (below_then HBW.out HBW.out.size hb_); clear HBW hb_; have HBW := n_; clear n_
    refine hK.out _ _ ⟨(cells3_ (blk_below HA.out HBW.out)).1, (cells3_ (blk_below HA.out HBW.out)).2.1, (cells3_ (blk_below HA.out HBW.out)).2.2, pw_cell_below HBW.out hZ.out.2.2, fun h => pw_cell_below HBW.out (hP1.out h).2.2.1⟩ (fun hS_ => ?_)
    clear hK K
    refine norm_ (a' := ?_) ?_ ?_
    rotate_left
    (simp only [Act.put, List.setIfInBounds_toArray, List.set_cons_zero, List.set_cons_succ, i64_w, i32_w]; rfl)
    refine rL 3 4 (N := some 15) (v := ?_) (a' := ?_) HT_ HW_ rfl rfl rfl (by kernel_rfl) (fun _ _ _ h => h) hS_ (by rfl) ?_ ?_ ?_; rotate_left 2; (rintro w' ⟨s0, s1, s2, s4, -⟩; go_simp; with_reducible rfl); (simp only [Act.put, List.setIfInBounds_toArray, List.set_cons_zero, List.set_cons_succ, i64_w, i32_w]; rfl)
    refine rL 4 5 (N := some 16) (v := ?_) (a' := ?_) HT_ HW_ rfl rfl rfl (by kernel_rfl) (fun _ _ _ h => h) hS_ (by rfl) ?_ ?_ ?_; rotate_left 2; (rintro w' ⟨s0, s1, s2, s4, -⟩; go_simp; with_reducible rfl); (simp only [Act.put, List.setIfInBounds_toArray, List.set_cons_zero, List.set_cons_succ, i64_w, i32_w]; rfl)
    refine rU 5 6 (N := some 17) (a' := ?_) HT_ HW_ rfl rfl rfl (by kernel_rfl) (fun _ _ _ h => h) hS_ (by rfl) ?_ ?_; rotate_left; (simp only [Act.put, List.setIfInBounds_toArray, List.set_cons_zero, List.set_cons_succ, i64_w, i32_w]; rfl)
    refine rU 6 7 (N := some 18) (a' := ?_) HT_ HW_ rfl rfl rfl (by kernel_rfl) (fun _ _ _ h => h) hS_ (by rfl) ?_ ?_; rotate_left; (simp only [Act.put, List.setIfInBounds_toArray, List.set_cons_zero, List.set_cons_succ, i64_w, i32_w]; rfl)
    refine rU 7 8 (N := some 19) (a' := ?_) HT_ HW_ rfl rfl rfl (by kernel_rfl) (fun _ _ _ h => h) hS_ (by rfl) ?_ ?_; rotate_left; (simp only [Act.put, List.setIfInBounds_toArray, List.set_cons_zero, List.set_cons_succ, i64_w, i32_w]; rfl)
    refine rU 8 9 (N := some 20) (a' := ?_) HT_ HW_ rfl rfl rfl (by kernel_rfl) (fun _ _ _ h => h) hS_ (by rfl) ?_ ?_; rotate_left; (simp only [Act.put, List.setIfInBounds_toArray, List.set_cons_zero, List.set_cons_succ, i64_w, i32_w]; rfl)
    refine rU 9 10 (N := some 21) (a' := ?_) HT_ HW_ rfl rfl rfl (by kernel_rfl) (fun _ _ _ h => h) hS_ (by rfl) ?_ ?_; rotate_left; (simp only [Act.put, List.setIfInBounds_toArray, List.set_cons_zero, List.set_cons_succ, i64_w, i32_w]; rfl)
    refine rU 10 11 (N := some 22) (a' := ?_) HT_ HW_ rfl rfl rfl (by kernel_rfl) (fun _ _ _ h => h) hS_ (by rfl) ?_ ?_; rotate_left; (simp only [Act.put, List.setIfInBounds_toArray, List.set_cons_zero, List.set_cons_succ, i64_w, i32_w]; rfl)
    refine rU 11 12 (N := some 23) (a' := ?_) HT_ HW_ rfl rfl rfl (by kernel_rfl) (fun _ _ _ h => h) hS_ (by rfl) ?_ ?_; rotate_left; (simp only [Act.put, List.setIfInBounds_toArray, List.set_cons_zero, List.set_cons_succ, i64_w, i32_w]; rfl)
    refine rU 12 13 (N := some 24) (a' := ?_) HT_ HW_ rfl rfl rfl (by kernel_rfl) (fun _ _ _ h => h) hS_ (by rfl) ?_ ?_; rotate_left; (simp only [Act.put, List.setIfInBounds_toArray, List.set_cons_zero, List.set_cons_succ, i64_w, i32_w]; rfl)
    refine rU 13 14 (N := some 25) (a' := ?_) HT_ HW_ rfl rfl rfl (by kernel_rfl) (fun _ _ _ h => h) hS_ (by rfl) ?_ ?_; rotate_left; (simp only [Act.put, List.setIfInBounds_toArray, List.set_cons_zero, List.set_cons_succ, i64_w, i32_w]; rfl)
    refine rU 14 15 (N := some 26) (a' := ?_) HT_ HW_ rfl rfl rfl (by kernel_rfl) (fun _ _ _ h => h) hS_ (by rfl) ?_ ?_; rotate_left; (simp only [Act.put, List.setIfInBounds_toArray, List.set_cons_zero, List.set_cons_succ, i64_w, i32_w]; rfl)
    refine rU 15 16 (N := some 27) (a' := ?_) HT_ HW_ rfl rfl rfl (by kernel_rfl) (fun _ _ _ h => h) hS_ (by rfl) ?_ ?_; rotate_left; (simp only [Act.put, List.setIfInBounds_toArray, List.set_cons_zero, List.set_cons_succ, i64_w, i32_w]; rfl)
    refine rL 16 17 (N := some 28) (v := ?_) (a' := ?_) HT_ HW_ rfl rfl rfl (by kernel_rfl) (fun _ _ _ h => h) hS_ (by rfl) ?_ ?_ ?_; rotate_left 2; (rintro w' ⟨s0, s1, s2, s4, -⟩; go_simp; with_reducible rfl); (simp only [Act.put, List.setIfInBounds_toArray, List.set_cons_zero, List.set_cons_succ, i64_w, i32_w]; rfl)
    refine rL 17 18 (N := some 29) (v := ?_) (a' := ?_) HT_ HW_ rfl rfl rfl (by kernel_rfl) (fun _ _ _ h => h) hS_ (by rfl) ?_ ?_ ?_; rotate_left 2; (rintro w' ⟨s0, s1, s2, s4, -⟩; go_simp; with_reducible rfl); (simp only [Act.put, List.setIfInBounds_toArray, List.set_cons_zero, List.set_cons_succ, i64_w, i32_w]; rfl)
    refine rU 18 19 (N := some 30) (a' := ?_) HT_ HW_ rfl rfl rfl (by kernel_rfl) (fun _ _ _ h => h) hS_ (by rfl) ?_ ?_; rotate_left; (simp only [Act.put, List.setIfInBounds_toArray, List.set_cons_zero, List.set_cons_succ, i64_w, i32_w]; rfl)
    refine rU 19 20 (N := some 31) (a' := ?_) HT_ HW_ rfl rfl rfl (by kernel_rfl) (fun _ _ _ h => h) hS_ (by rfl) ?_ ?_; rotate_left; (simp only [Act.put, List.setIfInBounds_toArray, List.set_cons_zero, List.set_cons_succ, i64_w, i32_w]; rfl)
    refine rU 20 21 (N := some 32) (a' := ?_) HT_ HW_ rfl rfl rfl (by kernel_rfl) (fun _ _ _ h => h) hS_ (by rfl) ?_ ?_; rotate_left; (simp only [Act.put, List.setIfInBounds_toArray, List.set_cons_zero, List.set_cons_succ, i64_w, i32_w]; rfl)
    refine rU 21 22 (N := some 33) (a' := ?_) HT_ HW_ rfl rfl rfl (by kernel_rfl) (fun _ _ _ h => h) hS_ (by rfl) ?_ ?_; rotate_left; (simp only [Act.put, List.setIfInBounds_toArray, List.set_cons_zero, List.set_cons_succ, i64_w, i32_w]; rfl)
    refine rL 22 23 (N := some 34) (v := ?_) (a' := ?_) HT_ HW_ rfl rfl rfl (by kernel_rfl) (fun _ _ _ h => h) hS_ (by rfl) ?_ ?_ ?_; rotate_left 2; (rintro w' ⟨s0, s1, s2, s4, -⟩; go_simp; with_reducible rfl); (simp only [Act.put, List.setIfInBounds_toArray, List.set_cons_zero, List.set_cons_succ, i64_w, i32_w]; rfl)
    refine rL 23 24 (N := some 35) (v := ?_) (a' := ?_) HT_ HW_ rfl rfl rfl (by kernel_rfl) (fun _ _ _ h => h) hS_ (by rfl) ?_ ?_ ?_; rotate_left 2; (rintro w' ⟨s0, s1, s2, s4, -⟩; go_simp; with_reducible rfl); (simp only [Act.put, List.setIfInBounds_toArray, List.set_cons_zero, List.set_cons_succ, i64_w, i32_w]; rfl)
    refine rU 24 25 (N := some 36) (a' := ?_) HT_ HW_ rfl rfl rfl (by kernel_rfl) (fun _ _ _ h => h) hS_ (by rfl) ?_ ?_; rotate_left; (simp only [Act.put, List.setIfInBounds_toArray, List.set_cons_zero, List.set_cons_succ, i64_w, i32_w]; rfl)
    refine rU 25 26 (N := some 37) (a' := ?_) HT_ HW_ rfl rfl rfl (by kernel_rfl) (fun _ _ _ h => h) hS_ (by rfl) ?_ ?_; rotate_left; (simp only [Act.put, List.setIfInBounds_toArray, List.set_cons_zero, List.set_cons_succ, i64_w, i32_w]; rfl)
    refine rU 26 27 (N := some 38) (a' := ?_) HT_ HW_ rfl rfl rfl (by kernel_rfl) (fun _ _ _ h => h) hS_ (by rfl) ?_ ?_; rotate_left; (simp only [Act.put, List.setIfInBounds_toArray, List.set_cons_zero, List.set_cons_succ, i64_w, i32_w]; rfl)
    refine rU 27 28 (N := some 39) (a' := ?_) HT_ HW_ rfl rfl rfl (by kernel_rfl) (fun _ _ _ h => h) hS_ (by rfl) ?_ ?_; rotate_left; (simp only [Act.put, List.setIfInBounds_toArray, List.set_cons_zero, List.set_cons_succ, i64_w, i32_w]; rfl)
    refine rL 28 29 (N := some 40) (v := ?_) (a' := ?_) HT_ HW_ rfl rfl rfl (by kernel_rfl) (fun _ _ _ h => h) hS_ (by rfl) ?_ ?_ ?_; rotate_left 2; (rintro w' ⟨s0, s1, s2, s4, -⟩; go_simp; with_reducible rfl); (simp only [Act.put, List.setIfInBounds_toArray, List.set_cons_zero, List.set_cons_succ, i64_w, i32_w]; rfl)
    refine rL 29 30 (N := some 41) (v := ?_) (a' := ?_) HT_ HW_ rfl rfl rfl (by kernel_rfl) (fun _ _ _ h => h) hS_ (by rfl) ?_ ?_ ?_; rotate_left 2; (rintro w' ⟨s0, s1, s2, s4, -⟩; go_simp; with_reducible rfl); (simp only [Act.put, List.setIfInBounds_toArray, List.set_cons_zero, List.set_cons_succ, i64_w, i32_w]; rfl)
    refine rU 30 31 (N := some 42) (a' := ?_) HT_ HW_ rfl rfl rfl (by kernel_rfl) (fun _ _ _ h => h) hS_ (by rfl) ?_ ?_; rotate_left; (simp only [Act.put, List.setIfInBounds_toArray, List.set_cons_zero, List.set_cons_succ, i64_w, i32_w]; rfl)
    refine rU 31 32 (N := some 43) (a' := ?_) HT_ HW_ rfl rfl rfl (by kernel_rfl) (fun _ _ _ h => h) hS_ (by rfl) ?_ ?_; rotate_left; (simp only [Act.put, List.setIfInBounds_toArray, List.set_cons_zero, List.set_cons_succ, i64_w, i32_w]; rfl)
    refine rU 32 33 (N := some 44) (a' := ?_) HT_ HW_ rfl rfl rfl (by kernel_rfl) (fun _ _ _ h => h) hS_ (by rfl) ?_ ?_; rotate_left; (simp only [Act.put, List.setIfInBounds_toArray, List.set_cons_zero, List.set_cons_succ, i64_w, i32_w]; rfl)
    refine rU 33 34 (N := some 45) (a' := ?_) HT_ HW_ rfl rfl rfl (by kernel_rfl) (fun _ _ _ h => h) hS_ (by rfl) ?_ ?_; rotate_left; (simp only [Act.put, List.setIfInBounds_toArray, List.set_cons_zero, List.set_cons_succ, i64_w, i32_w]; rfl)
    refine rU 34 35 (N := some 46) (a' := ?_) HT_ HW_ rfl rfl rfl (by kernel_rfl) (fun _ _ _ h => h) hS_ (by rfl) ?_ ?_; rotate_left; (simp only [Act.put, List.setIfInBounds_toArray, List.set_cons_zero, List.set_cons_succ, i64_w, i32_w]; rfl)
    refine rU 35 36 (N := some 47) (a' := ?_) HT_ HW_ rfl rfl rfl (by kernel_rfl) (fun _ _ _ h => h) hS_ (by rfl) ?_ ?_; rotate_left; (simp only [Act.put, List.setIfInBounds_toArray, List.set_cons_zero, List.set_cons_succ, i64_w, i32_w]; rfl)
    refine rU 36 37 (N := some 48) (a' := ?_) HT_ HW_ rfl rfl rfl (by kernel_rfl) (fun _ _ _ h => h) hS_ (by rfl) ?_ ?_; rotate_left; (simp only [Act.put, List.setIfInBounds_toArray, List.set_cons_zero, List.set_cons_succ, i64_w, i32_w]; rfl)
    refine rU 37 38 (N := some 49) (a' := ?_) HT_ HW_ rfl rfl rfl (by kernel_rfl) (fun _ _ _ h => h) hS_ (by rfl) ?_ ?_; rotate_left; (simp only [Act.put, List.setIfInBounds_toArray, List.set_cons_zero, List.set_cons_succ, i64_w, i32_w]; rfl)
    refine rL 38 39 (N := some 50) (v := ?_) (a' := ?_) HT_ HW_ rfl rfl rfl (by kernel_rfl) (fun _ _ _ h => h) hS_ (by rfl) ?_ ?_ ?_; rotate_left 2; (rintro w' ⟨s0, s1, s2, s4, -⟩; go_simp; with_reducible rfl); (simp only [Act.put, List.setIfInBounds_toArray, List.set_cons_zero, List.set_cons_succ, i64_w, i32_w]; rfl)
    refine rL 39 40 (N := some 51) (v := ?_) (a' := ?_) HT_ HW_ rfl rfl rfl (by kernel_rfl) (fun _ _ _ h => h) hS_ (by rfl) ?_ ?_ ?_; rotate_left 2; (rintro w' ⟨s0, s1, s2, s4, -⟩; go_simp; with_reducible rfl); (simp only [Act.put, List.setIfInBounds_toArray, List.set_cons_zero, List.set_cons_succ, i64_w, i32_w]; rfl)
    refine rU 40 41 (N := some 52) (a' := ?_) HT_ HW_ rfl rfl rfl (by kernel_rfl) (fun _ _ _ h => h) hS_ (by rfl) ?_ ?_; rotate_left; (simp only [Act.put, List.setIfInBounds_toArray, List.set_cons_zero, List.set_cons_succ, i64_w, i32_w]; rfl)
    refine rU 41 42 (N := some 53) (a' := ?_) HT_ HW_ rfl rfl rfl (by kernel_rfl) (fun _ _ _ h => h) hS_ (by rfl) ?_ ?_; rotate_left; (simp only [Act.put, List.setIfInBounds_toArray, List.set_cons_zero, List.set_cons_succ, i64_w, i32_w]; rfl)
    refine rU 42 43 (N := some 54) (a' := ?_) HT_ HW_ rfl rfl rfl (by kernel_rfl) (fun _ _ _ h => h) hS_ (by rfl) ?_ ?_; rotate_left; (simp only [Act.put, List.setIfInBounds_toArray, List.set_cons_zero, List.set_cons_succ, i64_w, i32_w]; rfl)
    refine rU 43 44 (N := some 55) (a' := ?_) HT_ HW_ rfl rfl rfl (by kernel_rfl) (fun _ _ _ h => h) hS_ (by rfl) ?_ ?_; rotate_left; (simp only [Act.put, List.setIfInBounds_toArray, List.set_cons_zero, List.set_cons_succ, i64_w, i32_w]; rfl)
    refine rU 44 45 (N := some 56) (a' := ?_) HT_ HW_ rfl rfl rfl (by kernel_rfl) (fun _ _ _ h => h) hS_ (by rfl) ?_ ?_; rotate_left; (simp only [Act.put, List.setIfInBounds_toArray, List.set_cons_zero, List.set_cons_succ, i64_w, i32_w]; rfl)
    refine rU 45 46 (N := some 57) (a' := ?_) HT_ HW_ rfl rfl rfl (by kernel_rfl) (fun _ _ _ h => h) hS_ (by rfl) ?_ ?_; rotate_left; (simp only [Act.put, List.setIfInBounds_toArray, List.set_cons_zero, List.set_cons_succ, i64_w, i32_w]; rfl)
    refine rU 46 47 (N := some 58) (a' := ?_) HT_ HW_ rfl rfl rfl (by kernel_rfl) (fun _ _ _ h => h) hS_ (by rfl) ?_ ?_; rotate_left; (simp only [Act.put, List.setIfInBounds_toArray, List.set_cons_zero, List.set_cons_succ, i64_w, i32_w]; rfl)
    refine rU 47 48 (N := some 59) (a' := ?_) HT_ HW_ rfl rfl rfl (by kernel_rfl) (fun _ _ _ h => h) hS_ (by rfl) ?_ ?_; rotate_left; (simp only [Act.put, List.setIfInBounds_toArray, List.set_cons_zero, List.set_cons_succ, i64_w, i32_w]; rfl)
    refine rU 48 49 (N := some 60) (a' := ?_) HT_ HW_ rfl rfl rfl (by kernel_rfl) (fun _ _ _ h => h) hS_ (by rfl) ?_ ?_; rotate_left; (simp only [Act.put, List.setIfInBounds_toArray, List.set_cons_zero, List.set_cons_succ, i64_w, i32_w]; rfl)
    refine rU 49 50 (N := some 61) (a' := ?_) HT_ HW_ rfl rfl rfl (by kernel_rfl) (fun _ _ _ h => h) hS_ (by rfl) ?_ ?_; rotate_left; (simp only [Act.put, List.setIfInBounds_toArray, List.set_cons_zero, List.set_cons_succ, i64_w, i32_w]; rfl)
    refine rU 50 51 (N := some 62) (a' := ?_) HT_ HW_ rfl rfl rfl (by kernel_rfl) (fun _ _ _ h => h) hS_ (by rfl) ?_ ?_; rotate_left; (simp only [Act.put, List.setIfInBounds_toArray, List.set_cons_zero, List.set_cons_succ, i64_w, i32_w]; rfl)
    refine rU 51 52 (N := some 63) (a' := ?_) HT_ HW_ rfl rfl rfl (by kernel_rfl) (fun _ _ _ h => h) hS_ (by rfl) ?_ ?_; rotate_left; (simp only [Act.put, List.setIfInBounds_toArray, List.set_cons_zero, List.set_cons_succ, i64_w, i32_w]; rfl)
    refine rU 52 53 (N := some 64) (a' := ?_) HT_ HW_ rfl rfl rfl (by kernel_rfl) (fun _ _ _ h => h) hS_ (by rfl) ?_ ?_; rotate_left; (simp only [Act.put, List.setIfInBounds_toArray, List.set_cons_zero, List.set_cons_succ, i64_w, i32_w]; rfl)
    refine rU 53 54 (N := some 65) (a' := ?_) HT_ HW_ rfl rfl rfl (by kernel_rfl) (fun _ _ _ h => h) hS_ (by rfl) ?_ ?_; rotate_left; (simp only [Act.put, List.setIfInBounds_toArray, List.set_cons_zero, List.set_cons_succ, i64_w, i32_w]; rfl)
    refine rL 54 55 (N := some 66) (v := ?_) (a' := ?_) HT_ HW_ rfl rfl rfl (by kernel_rfl) (fun _ _ _ h => h) hS_ (by rfl) ?_ ?_ ?_; rotate_left 2; (rintro w' ⟨s0, s1, s2, s4, -⟩; go_simp; with_reducible rfl); (simp only [Act.put, List.setIfInBounds_toArray, List.set_cons_zero, List.set_cons_succ, i64_w, i32_w]; rfl)
    refine rD HT_ (by kernel_rfl) ?_
    go_wp2
    go_ret
    exact ⟨ret_bool_ (goodG_no l kk hlt (by rw [GR.out]; simp [*, zeroB, rowOfB, HK.out])).symm, (FIN.out _ HBW.out).out⟩
   | true =>
    refine one_ (i := 2) (N := some 14) (upR 55 3) rfl rfl (one_of HT_.out (by kernel_rfl)) (by decide) (fun K hK => ?_)
    refine goes_ Try.func73 (by kernel_rfl) rfl #[.agg #[.slice A0_ y.f0.f0.length c0_]] (by rfl) rfl rfl (by (try simp only [List.map_toArray, List.map_cons, List.map_nil]); first | done | rfl) ?_
    refine (specGoodRow_any _ _ _ _ (Kd.C_below HCy.out HBW.out) HC.out.1 b0).mono ?_
    rintro e w' ⟨rfl, hb_⟩
    refine ⟨_, rfl, ?_⟩
    have n_ := Aside0.mk (below_then HBW.out HBW.out.size hb_); clear HBW hb_; have HBW := n_; clear n_
    refine hK.out _ _ ⟨(cells3_ (blk_below HA.out HBW.out)).1, (cells3_ (blk_below HA.out HBW.out)).2.1, (cells3_ (blk_below HA.out HBW.out)).2.2, pw_cell_below HBW.out hZ.out.2.2, fun h => pw_cell_below HBW.out (hP1.out h).2.2.1⟩ (fun hS_ => ?_)
    clear hK K
    refine norm_ (a' := ?_) ?_ ?_
    rotate_left
    (simp only [Act.put, List.setIfInBounds_toArray, List.set_cons_zero, List.set_cons_succ, i64_w, i32_w]; rfl)
    refine rL 3 4 (N := some 15) (v := ?_) (a' := ?_) HT_ HW_ rfl rfl rfl (by kernel_rfl) (fun _ _ _ h => h) hS_ (by rfl) ?_ ?_ ?_; rotate_left 2; (rintro w' ⟨s0, s1, s2, s4, -⟩; go_simp; with_reducible rfl); (simp only [Act.put, List.setIfInBounds_toArray, List.set_cons_zero, List.set_cons_succ, i64_w, i32_w]; rfl)
    refine rL 4 5 (N := some 16) (v := ?_) (a' := ?_) HT_ HW_ rfl rfl rfl (by kernel_rfl) (fun _ _ _ h => h) hS_ (by rfl) ?_ ?_ ?_; rotate_left 2; (rintro w' ⟨s0, s1, s2, s4, -⟩; go_simp; with_reducible rfl); (simp only [Act.put, List.setIfInBounds_toArray, List.set_cons_zero, List.set_cons_succ, i64_w, i32_w]; rfl)
    refine rL 5 6 (N := some 17) (v := ?_) (a' := ?_) HT_ HW_ rfl rfl rfl (by kernel_rfl) (fun _ _ _ h => h) hS_ (by rfl) ?_ ?_ ?_; rotate_left 2; (rintro w' ⟨s0, s1, s2, s4, -⟩; go_simp; with_reducible rfl); (simp only [Act.put, List.setIfInBounds_toArray, List.set_cons_zero, List.set_cons_succ, i64_w, i32_w]; rfl)
    refine rL 6 7 (N := some 18) (v := ?_) (a' := ?_) HT_ HW_ rfl rfl rfl (by kernel_rfl) (fun _ _ _ h => h) hS_ (by rfl) ?_ ?_ ?_; rotate_left 2; (rintro w' ⟨s0, s1, s2, s4, -⟩; go_simp; with_reducible rfl); (simp only [Act.put, List.setIfInBounds_toArray, List.set_cons_zero, List.set_cons_succ, i64_w, i32_w]; rfl)
    refine rL 7 8 (N := some 19) (v := ?_) (a' := ?_) HT_ HW_ rfl rfl rfl (by kernel_rfl) (fun _ _ _ h => h) hS_ (by rfl) ?_ ?_ ?_; rotate_left 2; (rintro w' ⟨s0, s1, s2, s4, -⟩; go_simp; with_reducible rfl); (simp only [Act.put, List.setIfInBounds_toArray, List.set_cons_zero, List.set_cons_succ, i64_w, i32_w]; rfl)
    refine rL 8 9 (N := some 20) (v := ?_) (a' := ?_) HT_ HW_ rfl rfl rfl (by kernel_rfl) (fun _ _ _ h => h) hS_ (by rfl) ?_ ?_ ?_; rotate_left 2; (rintro w' ⟨s0, s1, s2, s4, -⟩; go_simp; with_reducible rfl); (simp only [Act.put, List.setIfInBounds_toArray, List.set_cons_zero, List.set_cons_succ, i64_w, i32_w]; rfl)
    refine rL 9 10 (N := some 21) (v := ?_) (a' := ?_) HT_ HW_ rfl rfl rfl (by kernel_rfl) (fun _ _ _ h => h) hS_ (by rfl) ?_ ?_ ?_; rotate_left 2; (rintro w' ⟨s0, s1, s2, s4, -⟩; go_simp; with_reducible rfl); (simp only [Act.put, List.setIfInBounds_toArray, List.set_cons_zero, List.set_cons_succ, i64_w, i32_w]; rfl)
    refine rL 10 11 (N := some 22) (v := ?_) (a' := ?_) HT_ HW_ rfl rfl rfl (by kernel_rfl) (fun _ _ _ h => h) hS_ (by rfl) ?_ ?_ ?_; rotate_left 2; (rintro w' ⟨s0, s1, s2, s4, -⟩; go_simp; with_reducible rfl); (simp only [Act.put, List.setIfInBounds_toArray, List.set_cons_zero, List.set_cons_succ, i64_w, i32_w]; rfl)
    refine rL 11 12 (N := some 23) (v := ?_) (a' := ?_) HT_ HW_ rfl rfl rfl (by kernel_rfl) (fun _ _ _ h => h) hS_ (by rfl) ?_ ?_ ?_; rotate_left 2; (rintro w' ⟨s0, s1, s2, s4, -⟩; go_simp; with_reducible rfl); (simp only [Act.put, List.setIfInBounds_toArray, List.set_cons_zero, List.set_cons_succ, i64_w, i32_w]; rfl)
    refine rL 12 13 (N := some 24) (v := ?_) (a' := ?_) HT_ HW_ rfl rfl rfl (by kernel_rfl) (fun _ _ _ h => h) hS_ (by rfl) ?_ ?_ ?_; rotate_left 2; (rintro w' ⟨s0, s1, s2, s4, -⟩; go_simp; with_reducible rfl); (simp only [Act.put, List.setIfInBounds_toArray, List.set_cons_zero, List.set_cons_succ, i64_w, i32_w]; rfl)
    refine rL 13 14 (N := some 25) (v := ?_) (a' := ?_) HT_ HW_ rfl rfl rfl (by kernel_rfl) (fun _ _ _ h => h) hS_ (by rfl) ?_ ?_ ?_; rotate_left 2; (rintro w' ⟨s0, s1, s2, s4, -⟩; go_simp; with_reducible rfl); (simp only [Act.put, List.setIfInBounds_toArray, List.set_cons_zero, List.set_cons_succ, i64_w, i32_w]; rfl)
    refine rL 14 15 (N := some 26) (v := ?_) (a' := ?_) HT_ HW_ rfl rfl rfl (by kernel_rfl) (fun _ _ _ h => h) hS_ (by rfl) ?_ ?_ ?_; rotate_left 2; (rintro w' ⟨s0, s1, s2, s4, -⟩; go_simp; with_reducible rfl); (simp only [Act.put, List.setIfInBounds_toArray, List.set_cons_zero, List.set_cons_succ, i64_w, i32_w]; rfl)
    by_cases hln : y.f0.f0.length = n0
    ·have ln1 : ((y.f0.f0.length : Int) != (n0 : Int)) = false := by simp [hln]
     have HLN := Aside0.mk hln; clear hln
     refine rL 15 16 (N := some 27) (v := ?_) (a' := ?_) HT_ HW_ rfl rfl rfl (by kernel_rfl) (fun _ _ _ h => h) hS_ (by rfl) ?_ ?_ ?_; rotate_left 2; (rintro w' ⟨s0, s1, s2, s4, -⟩; go_simp; with_reducible rfl); (simp only [Act.put, List.setIfInBounds_toArray, List.set_cons_zero, List.set_cons_succ, i64_w, i32_w]; rfl)
     refine rL 16 17 (N := some 28) (v := ?_) (a' := ?_) HT_ HW_ rfl rfl rfl (by kernel_rfl) (fun _ _ _ h => h) hS_ (by rfl) ?_ ?_ ?_; rotate_left 2; (rintro w' ⟨s0, s1, s2, s4, -⟩; go_simp; with_reducible rfl); (simp only [Act.put, List.setIfInBounds_toArray, List.set_cons_zero, List.set_cons_succ, i64_w, i32_w]; rfl)
     refine rL 17 18 (N := some 29) (v := ?_) (a' := ?_) HT_ HW_ rfl rfl rfl (by kernel_rfl) (fun _ _ _ h => h) hS_ (by rfl) ?_ ?_ ?_; rotate_left 2; (rintro w' ⟨s0, s1, s2, s4, -⟩; go_simp; with_reducible rfl); (simp only [Act.put, List.setIfInBounds_toArray, List.set_cons_zero, List.set_cons_succ, i64_w, i32_w]; rfl)
     refine rL 18 19 (N := some 30) (v := ?_) (a' := ?_) HT_ HW_ rfl rfl rfl (by kernel_rfl) (fun _ _ _ h => h) hS_ (by rfl) ?_ ?_ ?_; rotate_left 2; (rintro w' ⟨s0, s1, s2, s4, -⟩; go_simp; with_reducible rfl); (simp only [Act.put, List.setIfInBounds_toArray, List.set_cons_zero, List.set_cons_succ, i64_w, i32_w]; rfl)
     refine rL 19 20 (N := some 31) (v := ?_) (a' := ?_) HT_ HW_ rfl rfl rfl (by kernel_rfl) (fun _ _ _ h => h) hS_ (by rfl) ?_ ?_ ?_; rotate_left 2; (rintro w' ⟨s0, s1, s2, s4, -⟩; go_simp; with_reducible rfl); (simp only [Act.put, List.setIfInBounds_toArray, List.set_cons_zero, List.set_cons_succ, i64_w, i32_w]; rfl)
     cases b2 : sumB y.f1 with
     | false =>
      refine one_ (i := 20) (N := some 32) (upR 55 21) rfl rfl (one_of HT_.out (by kernel_rfl)) (by decide) (fun K hK => ?_)
      refine goes_ Try.func74 (by kernel_rfl) rfl #[.int .i64 y.f1] (by rfl) rfl rfl (by (try simp only [List.map_toArray, List.map_cons, List.map_nil]); first | done | rfl) ?_
      refine (specSum_any _ _ b2).mono ?_
      rintro e w' ⟨rfl, hb_⟩
      refine ⟨_, rfl, ?_⟩
      have n_ := Aside0.mk (below_then HBW.out HBW.out.size hb_); clear HBW hb_; have HBW := n_; clear n_
      refine hK.out _ _ ⟨(cells3_ (blk_below HA.out HBW.out)).1, (cells3_ (blk_below HA.out HBW.out)).2.1, (cells3_ (blk_below HA.out HBW.out)).2.2, pw_cell_below HBW.out hZ.out.2.2, fun h => pw_cell_below HBW.out (hP1.out h).2.2.1⟩ (fun hS_ => ?_)
      clear hK K
      refine norm_ (a' := ?_) ?_ ?_
      rotate_left
      (simp only [Act.put, List.setIfInBounds_toArray, List.set_cons_zero, List.set_cons_succ, i64_w, i32_w]; rfl)
      refine rL 21 22 (N := some 33) (v := ?_) (a' := ?_) HT_ HW_ rfl rfl rfl (by kernel_rfl) (fun _ _ _ h => h) hS_ (by rfl) ?_ ?_ ?_; rotate_left 2; (rintro w' ⟨s0, s1, s2, s4, -⟩; go_simp; with_reducible rfl); (simp only [Act.put, List.setIfInBounds_toArray, List.set_cons_zero, List.set_cons_succ, i64_w, i32_w]; rfl)
      refine rL 22 23 (N := some 34) (v := ?_) (a' := ?_) HT_ HW_ rfl rfl rfl (by kernel_rfl) (fun _ _ _ h => h) hS_ (by rfl) ?_ ?_ ?_; rotate_left 2; (rintro w' ⟨s0, s1, s2, s4, -⟩; go_simp; with_reducible rfl); (simp only [Act.put, List.setIfInBounds_toArray, List.set_cons_zero, List.set_cons_succ, i64_w, i32_w]; rfl)
      refine rL 23 24 (N := some 35) (v := ?_) (a' := ?_) HT_ HW_ rfl rfl rfl (by kernel_rfl) (fun _ _ _ h => h) hS_ (by rfl) ?_ ?_ ?_; rotate_left 2; (rintro w' ⟨s0, s1, s2, s4, -⟩; go_simp; with_reducible rfl); (simp only [Act.put, List.setIfInBounds_toArray, List.set_cons_zero, List.set_cons_succ, i64_w, i32_w]; rfl)
      refine rU 24 25 (N := some 36) (a' := ?_) HT_ HW_ rfl rfl rfl (by kernel_rfl) (fun _ _ _ h => h) hS_ (by rfl) ?_ ?_; rotate_left; (simp only [Act.put, List.setIfInBounds_toArray, List.set_cons_zero, List.set_cons_succ, i64_w, i32_w]; rfl)
      refine rU 25 26 (N := some 37) (a' := ?_) HT_ HW_ rfl rfl rfl (by kernel_rfl) (fun _ _ _ h => h) hS_ (by rfl) ?_ ?_; rotate_left; (simp only [Act.put, List.setIfInBounds_toArray, List.set_cons_zero, List.set_cons_succ, i64_w, i32_w]; rfl)
      refine rU 26 27 (N := some 38) (a' := ?_) HT_ HW_ rfl rfl rfl (by kernel_rfl) (fun _ _ _ h => h) hS_ (by rfl) ?_ ?_; rotate_left; (simp only [Act.put, List.setIfInBounds_toArray, List.set_cons_zero, List.set_cons_succ, i64_w, i32_w]; rfl)
      refine rU 27 28 (N := some 39) (a' := ?_) HT_ HW_ rfl rfl rfl (by kernel_rfl) (fun _ _ _ h => h) hS_ (by rfl) ?_ ?_; rotate_left; (simp only [Act.put, List.setIfInBounds_toArray, List.set_cons_zero, List.set_cons_succ, i64_w, i32_w]; rfl)
      refine rL 28 29 (N := some 40) (v := ?_) (a' := ?_) HT_ HW_ rfl rfl rfl (by kernel_rfl) (fun _ _ _ h => h) hS_ (by rfl) ?_ ?_ ?_; rotate_left 2; (rintro w' ⟨s0, s1, s2, s4, -⟩; go_simp; with_reducible rfl); (simp only [Act.put, List.setIfInBounds_toArray, List.set_cons_zero, List.set_cons_succ, i64_w, i32_w]; rfl)
      refine rL 29 30 (N := some 41) (v := ?_) (a' := ?_) HT_ HW_ rfl rfl rfl (by kernel_rfl) (fun _ _ _ h => h) hS_ (by rfl) ?_ ?_ ?_; rotate_left 2; (rintro w' ⟨s0, s1, s2, s4, -⟩; go_simp; with_reducible rfl); (simp only [Act.put, List.setIfInBounds_toArray, List.set_cons_zero, List.set_cons_succ, i64_w, i32_w]; rfl)
      refine rU 30 31 (N := some 42) (a' := ?_) HT_ HW_ rfl rfl rfl (by kernel_rfl) (fun _ _ _ h => h) hS_ (by rfl) ?_ ?_; rotate_left; (simp only [Act.put, List.setIfInBounds_toArray, List.set_cons_zero, List.set_cons_succ, i64_w, i32_w]; rfl)
      refine rU 31 32 (N := some 43) (a' := ?_) HT_ HW_ rfl rfl rfl (by kernel_rfl) (fun _ _ _ h => h) hS_ (by rfl) ?_ ?_; rotate_left; (simp only [Act.put, List.setIfInBounds_toArray, List.set_cons_zero, List.set_cons_succ, i64_w, i32_w]; rfl)
      refine rU 32 33 (N := some 44) (a' := ?_) HT_ HW_ rfl rfl rfl (by kernel_rfl) (fun _ _ _ h => h) hS_ (by rfl) ?_ ?_; rotate_left; (simp only [Act.put, List.setIfInBounds_toArray, List.set_cons_zero, List.set_cons_succ, i64_w, i32_w]; rfl)
      refine rU 33 34 (N := some 45) (a' := ?_) HT_ HW_ rfl rfl rfl (by kernel_rfl) (fun _ _ _ h => h) hS_ (by rfl) ?_ ?_; rotate_left; (simp only [Act.put, List.setIfInBounds_toArray, List.set_cons_zero, List.set_cons_succ, i64_w, i32_w]; rfl)
      refine rU 34 35 (N := some 46) (a' := ?_) HT_ HW_ rfl rfl rfl (by kernel_rfl) (fun _ _ _ h => h) hS_ (by rfl) ?_ ?_; rotate_left; (simp only [Act.put, List.setIfInBounds_toArray, List.set_cons_zero, List.set_cons_succ, i64_w, i32_w]; rfl)
      refine rU 35 36 (N := some 47) (a' := ?_) HT_ HW_ rfl rfl rfl (by kernel_rfl) (fun _ _ _ h => h) hS_ (by rfl) ?_ ?_; rotate_left; (simp only [Act.put, List.setIfInBounds_toArray, List.set_cons_zero, List.set_cons_succ, i64_w, i32_w]; rfl)
      refine rU 36 37 (N := some 48) (a' := ?_) HT_ HW_ rfl rfl rfl (by kernel_rfl) (fun _ _ _ h => h) hS_ (by rfl) ?_ ?_; rotate_left; (simp only [Act.put, List.setIfInBounds_toArray, List.set_cons_zero, List.set_cons_succ, i64_w, i32_w]; rfl)
      refine rU 37 38 (N := some 49) (a' := ?_) HT_ HW_ rfl rfl rfl (by kernel_rfl) (fun _ _ _ h => h) hS_ (by rfl) ?_ ?_; rotate_left; (simp only [Act.put, List.setIfInBounds_toArray, List.set_cons_zero, List.set_cons_succ, i64_w, i32_w]; rfl)
      refine rL 38 39 (N := some 50) (v := ?_) (a' := ?_) HT_ HW_ rfl rfl rfl (by kernel_rfl) (fun _ _ _ h => h) hS_ (by rfl) ?_ ?_ ?_; rotate_left 2; (rintro w' ⟨s0, s1, s2, s4, -⟩; go_simp; with_reducible rfl); (simp only [Act.put, List.setIfInBounds_toArray, List.set_cons_zero, List.set_cons_succ, i64_w, i32_w]; rfl)
      refine rL 39 40 (N := some 51) (v := ?_) (a' := ?_) HT_ HW_ rfl rfl rfl (by kernel_rfl) (fun _ _ _ h => h) hS_ (by rfl) ?_ ?_ ?_; rotate_left 2; (rintro w' ⟨s0, s1, s2, s4, -⟩; go_simp; with_reducible rfl); (simp only [Act.put, List.setIfInBounds_toArray, List.set_cons_zero, List.set_cons_succ, i64_w, i32_w]; rfl)
      refine rU 40 41 (N := some 52) (a' := ?_) HT_ HW_ rfl rfl rfl (by kernel_rfl) (fun _ _ _ h => h) hS_ (by rfl) ?_ ?_; rotate_left; (simp only [Act.put, List.setIfInBounds_toArray, List.set_cons_zero, List.set_cons_succ, i64_w, i32_w]; rfl)
      refine rU 41 42 (N := some 53) (a' := ?_) HT_ HW_ rfl rfl rfl (by kernel_rfl) (fun _ _ _ h => h) hS_ (by rfl) ?_ ?_; rotate_left; (simp only [Act.put, List.setIfInBounds_toArray, List.set_cons_zero, List.set_cons_succ, i64_w, i32_w]; rfl)
      refine rU 42 43 (N := some 54) (a' := ?_) HT_ HW_ rfl rfl rfl (by kernel_rfl) (fun _ _ _ h => h) hS_ (by rfl) ?_ ?_; rotate_left; (simp only [Act.put, List.setIfInBounds_toArray, List.set_cons_zero, List.set_cons_succ, i64_w, i32_w]; rfl)
      refine rU 43 44 (N := some 55) (a' := ?_) HT_ HW_ rfl rfl rfl (by kernel_rfl) (fun _ _ _ h => h) hS_ (by rfl) ?_ ?_; rotate_left; (simp only [Act.put, List.setIfInBounds_toArray, List.set_cons_zero, List.set_cons_succ, i64_w, i32_w]; rfl)
      refine rU 44 45 (N := some 56) (a' := ?_) HT_ HW_ rfl rfl rfl (by kernel_rfl) (fun _ _ _ h => h) hS_ (by rfl) ?_ ?_; rotate_left; (simp only [Act.put, List.setIfInBounds_toArray, List.set_cons_zero, List.set_cons_succ, i64_w, i32_w]; rfl)
      refine rU 45 46 (N := some 57) (a' := ?_) HT_ HW_ rfl rfl rfl (by kernel_rfl) (fun _ _ _ h => h) hS_ (by rfl) ?_ ?_; rotate_left; (simp only [Act.put, List.setIfInBounds_toArray, List.set_cons_zero, List.set_cons_succ, i64_w, i32_w]; rfl)
      refine rU 46 47 (N := some 58) (a' := ?_) HT_ HW_ rfl rfl rfl (by kernel_rfl) (fun _ _ _ h => h) hS_ (by rfl) ?_ ?_; rotate_left; (simp only [Act.put, List.setIfInBounds_toArray, List.set_cons_zero, List.set_cons_succ, i64_w, i32_w]; rfl)
      refine rU 47 48 (N := some 59) (a' := ?_) HT_ HW_ rfl rfl rfl (by kernel_rfl) (fun _ _ _ h => h) hS_ (by rfl) ?_ ?_; rotate_left; (simp only [Act.put, List.setIfInBounds_toArray, List.set_cons_zero, List.set_cons_succ, i64_w, i32_w]; rfl)
      refine rU 48 49 (N := some 60) (a' := ?_) HT_ HW_ rfl rfl rfl (by kernel_rfl) (fun _ _ _ h => h) hS_ (by rfl) ?_ ?_; rotate_left; (simp only [Act.put, List.setIfInBounds_toArray, List.set_cons_zero, List.set_cons_succ, i64_w, i32_w]; rfl)
      refine rU 49 50 (N := some 61) (a' := ?_) HT_ HW_ rfl rfl rfl (by kernel_rfl) (fun _ _ _ h => h) hS_ (by rfl) ?_ ?_; rotate_left; (simp only [Act.put, List.setIfInBounds_toArray, List.set_cons_zero, List.set_cons_succ, i64_w, i32_w]; rfl)
      refine rU 50 51 (N := some 62) (a' := ?_) HT_ HW_ rfl rfl rfl (by kernel_rfl) (fun _ _ _ h => h) hS_ (by rfl) ?_ ?_; rotate_left; (simp only [Act.put, List.setIfInBounds_toArray, List.set_cons_zero, List.set_cons_succ, i64_w, i32_w]; rfl)
      refine rU 51 52 (N := some 63) (a' := ?_) HT_ HW_ rfl rfl rfl (by kernel_rfl) (fun _ _ _ h => h) hS_ (by rfl) ?_ ?_; rotate_left; (simp only [Act.put, List.setIfInBounds_toArray, List.set_cons_zero, List.set_cons_succ, i64_w, i32_w]; rfl)
      refine rU 52 53 (N := some 64) (a' := ?_) HT_ HW_ rfl rfl rfl (by kernel_rfl) (fun _ _ _ h => h) hS_ (by rfl) ?_ ?_; rotate_left; (simp only [Act.put, List.setIfInBounds_toArray, List.set_cons_zero, List.set_cons_succ, i64_w, i32_w]; rfl)
      refine rU 53 54 (N := some 65) (a' := ?_) HT_ HW_ rfl rfl rfl (by kernel_rfl) (fun _ _ _ h => h) hS_ (by rfl) ?_ ?_; rotate_left; (simp only [Act.put, List.setIfInBounds_toArray, List.set_cons_zero, List.set_cons_succ, i64_w, i32_w]; rfl)
      refine rL 54 55 (N := some 66) (v := ?_) (a' := ?_) HT_ HW_ rfl rfl rfl (by kernel_rfl) (fun _ _ _ h => h) hS_ (by rfl) ?_ ?_ ?_; rotate_left 2; (rintro w' ⟨s0, s1, s2, s4, -⟩; go_simp; with_reducible rfl); (simp only [Act.put, List.setIfInBounds_toArray, List.set_cons_zero, List.set_cons_succ, i64_w, i32_w]; rfl)
      refine rD HT_ (by kernel_rfl) ?_
      go_wp2
      go_ret
      exact ⟨ret_bool_ (goodG_no l kk hlt (by rw [GR.out]; simp [*, zeroB, rowOfB, HK.out, HLN.out])).symm, (FIN.out _ HBW.out).out⟩
     | true =>
      refine one_ (i := 20) (N := some 32) (upR 55 21) rfl rfl (one_of HT_.out (by kernel_rfl)) (by decide) (fun K hK => ?_)
      refine goes_ Try.func74 (by kernel_rfl) rfl #[.int .i64 y.f1] (by rfl) rfl rfl (by (try simp only [List.map_toArray, List.map_cons, List.map_nil]); first | done | rfl) ?_
      refine (specSum_any _ _ b2).mono ?_
      rintro e w' ⟨rfl, hb_⟩
      refine ⟨_, rfl, ?_⟩
      have n_ := Aside0.mk (below_then HBW.out HBW.out.size hb_); clear HBW hb_; have HBW := n_; clear n_
      refine hK.out _ _ ⟨(cells3_ (blk_below HA.out HBW.out)).1, (cells3_ (blk_below HA.out HBW.out)).2.1, (cells3_ (blk_below HA.out HBW.out)).2.2, pw_cell_below HBW.out hZ.out.2.2, fun h => pw_cell_below HBW.out (hP1.out h).2.2.1⟩ (fun hS_ => ?_)
      clear hK K
      refine norm_ (a' := ?_) ?_ ?_
      rotate_left
      (simp only [Act.put, List.setIfInBounds_toArray, List.set_cons_zero, List.set_cons_succ, i64_w, i32_w]; rfl)
      refine rL 21 22 (N := some 33) (v := ?_) (a' := ?_) HT_ HW_ rfl rfl rfl (by kernel_rfl) (fun _ _ _ h => h) hS_ (by rfl) ?_ ?_ ?_; rotate_left 2; (rintro w' ⟨s0, s1, s2, s4, -⟩; go_simp; with_reducible rfl); (simp only [Act.put, List.setIfInBounds_toArray, List.set_cons_zero, List.set_cons_succ, i64_w, i32_w]; rfl)
      refine rL 22 23 (N := some 34) (v := ?_) (a' := ?_) HT_ HW_ rfl rfl rfl (by kernel_rfl) (fun _ _ _ h => h) hS_ (by rfl) ?_ ?_ ?_; rotate_left 2; (rintro w' ⟨s0, s1, s2, s4, -⟩; go_simp; with_reducible rfl); (simp only [Act.put, List.setIfInBounds_toArray, List.set_cons_zero, List.set_cons_succ, i64_w, i32_w]; rfl)
      refine rL 23 24 (N := some 35) (v := ?_) (a' := ?_) HT_ HW_ rfl rfl rfl (by kernel_rfl) (fun _ _ _ h => h) hS_ (by rfl) ?_ ?_ ?_; rotate_left 2; (rintro w' ⟨s0, s1, s2, s4, -⟩; go_simp; with_reducible rfl); (simp only [Act.put, List.setIfInBounds_toArray, List.set_cons_zero, List.set_cons_succ, i64_w, i32_w]; rfl)
      refine rL 24 25 (N := some 36) (v := ?_) (a' := ?_) HT_ HW_ rfl rfl rfl (by kernel_rfl) (fun _ _ _ h => h) hS_ (by rfl) ?_ ?_ ?_; rotate_left 2; (rintro w' ⟨s0, s1, s2, s4, -⟩; go_simp; with_reducible rfl); (simp only [Act.put, List.setIfInBounds_toArray, List.set_cons_zero, List.set_cons_succ, i64_w, i32_w]; rfl)
      refine rL 25 26 (N := some 37) (v := ?_) (a' := ?_) HT_ HW_ rfl rfl rfl (by kernel_rfl) (fun _ _ _ h => h) hS_ (by rfl) ?_ ?_ ?_; rotate_left 2; (rintro w' ⟨s0, s1, s2, s4, -⟩; go_simp; with_reducible rfl); (simp only [Act.put, List.setIfInBounds_toArray, List.set_cons_zero, List.set_cons_succ, i64_w, i32_w]; rfl)
      cases b3 : sumB y.f2 with
      | false =>
       refine one_ (i := 26) (N := some 38) (upR 55 27) rfl rfl (one_of HT_.out (by kernel_rfl)) (by decide) (fun K hK => ?_)
       refine goes_ Try.func74 (by kernel_rfl) rfl #[.int .i64 y.f2] (by rfl) rfl rfl (by (try simp only [List.map_toArray, List.map_cons, List.map_nil]); first | done | rfl) ?_
       refine (specSum_any _ _ b3).mono ?_
       rintro e w' ⟨rfl, hb_⟩
       refine ⟨_, rfl, ?_⟩
       have n_ := Aside0.mk (below_then HBW.out HBW.out.size hb_); clear HBW hb_; have HBW := n_; clear n_
       refine hK.out _ _ ⟨(cells3_ (blk_below HA.out HBW.out)).1, (cells3_ (blk_below HA.out HBW.out)).2.1, (cells3_ (blk_below HA.out HBW.out)).2.2, pw_cell_below HBW.out hZ.out.2.2, fun h => pw_cell_below HBW.out (hP1.out h).2.2.1⟩ (fun hS_ => ?_)
       clear hK K
       refine norm_ (a' := ?_) ?_ ?_
       rotate_left
       (simp only [Act.put, List.setIfInBounds_toArray, List.set_cons_zero, List.set_cons_succ, i64_w, i32_w]; rfl)
       refine rL 27 28 (N := some 39) (v := ?_) (a' := ?_) HT_ HW_ rfl rfl rfl (by kernel_rfl) (fun _ _ _ h => h) hS_ (by rfl) ?_ ?_ ?_; rotate_left 2; (rintro w' ⟨s0, s1, s2, s4, -⟩; go_simp; with_reducible rfl); (simp only [Act.put, List.setIfInBounds_toArray, List.set_cons_zero, List.set_cons_succ, i64_w, i32_w]; rfl)
       refine rL 28 29 (N := some 40) (v := ?_) (a' := ?_) HT_ HW_ rfl rfl rfl (by kernel_rfl) (fun _ _ _ h => h) hS_ (by rfl) ?_ ?_ ?_; rotate_left 2; (rintro w' ⟨s0, s1, s2, s4, -⟩; go_simp; with_reducible rfl); (simp only [Act.put, List.setIfInBounds_toArray, List.set_cons_zero, List.set_cons_succ, i64_w, i32_w]; rfl)
       refine rL 29 30 (N := some 41) (v := ?_) (a' := ?_) HT_ HW_ rfl rfl rfl (by kernel_rfl) (fun _ _ _ h => h) hS_ (by rfl) ?_ ?_ ?_; rotate_left 2; (rintro w' ⟨s0, s1, s2, s4, -⟩; go_simp; with_reducible rfl); (simp only [Act.put, List.setIfInBounds_toArray, List.set_cons_zero, List.set_cons_succ, i64_w, i32_w]; rfl)
       refine rU 30 31 (N := some 42) (a' := ?_) HT_ HW_ rfl rfl rfl (by kernel_rfl) (fun _ _ _ h => h) hS_ (by rfl) ?_ ?_; rotate_left; (simp only [Act.put, List.setIfInBounds_toArray, List.set_cons_zero, List.set_cons_succ, i64_w, i32_w]; rfl)
       refine rU 31 32 (N := some 43) (a' := ?_) HT_ HW_ rfl rfl rfl (by kernel_rfl) (fun _ _ _ h => h) hS_ (by rfl) ?_ ?_; rotate_left; (simp only [Act.put, List.setIfInBounds_toArray, List.set_cons_zero, List.set_cons_succ, i64_w, i32_w]; rfl)
       refine rU 32 33 (N := some 44) (a' := ?_) HT_ HW_ rfl rfl rfl (by kernel_rfl) (fun _ _ _ h => h) hS_ (by rfl) ?_ ?_; rotate_left; (simp only [Act.put, List.setIfInBounds_toArray, List.set_cons_zero, List.set_cons_succ, i64_w, i32_w]; rfl)
       refine rU 33 34 (N := some 45) (a' := ?_) HT_ HW_ rfl rfl rfl (by kernel_rfl) (fun _ _ _ h => h) hS_ (by rfl) ?_ ?_; rotate_left; (simp only [Act.put, List.setIfInBounds_toArray, List.set_cons_zero, List.set_cons_succ, i64_w, i32_w]; rfl)
       refine rU 34 35 (N := some 46) (a' := ?_) HT_ HW_ rfl rfl rfl (by kernel_rfl) (fun _ _ _ h => h) hS_ (by rfl) ?_ ?_; rotate_left; (simp only [Act.put, List.setIfInBounds_toArray, List.set_cons_zero, List.set_cons_succ, i64_w, i32_w]; rfl)
       refine rU 35 36 (N := some 47) (a' := ?_) HT_ HW_ rfl rfl rfl (by kernel_rfl) (fun _ _ _ h => h) hS_ (by rfl) ?_ ?_; rotate_left; (simp only [Act.put, List.setIfInBounds_toArray, List.set_cons_zero, List.set_cons_succ, i64_w, i32_w]; rfl)
       refine rU 36 37 (N := some 48) (a' := ?_) HT_ HW_ rfl rfl rfl (by kernel_rfl) (fun _ _ _ h => h) hS_ (by rfl) ?_ ?_; rotate_left; (simp only [Act.put, List.setIfInBounds_toArray, List.set_cons_zero, List.set_cons_succ, i64_w, i32_w]; rfl)
       refine rU 37 38 (N := some 49) (a' := ?_) HT_ HW_ rfl rfl rfl (by kernel_rfl) (fun _ _ _ h => h) hS_ (by rfl) ?_ ?_; rotate_left; (simp only [Act.put, List.setIfInBounds_toArray, List.set_cons_zero, List.set_cons_succ, i64_w, i32_w]; rfl)
       refine rL 38 39 (N := some 50) (v := ?_) (a' := ?_) HT_ HW_ rfl rfl rfl (by kernel_rfl) (fun _ _ _ h => h) hS_ (by rfl) ?_ ?_ ?_; rotate_left 2; (rintro w' ⟨s0, s1, s2, s4, -⟩; go_simp; with_reducible rfl); (simp only [Act.put, List.setIfInBounds_toArray, List.set_cons_zero, List.set_cons_succ, i64_w, i32_w]; rfl)
       refine rL 39 40 (N := some 51) (v := ?_) (a' := ?_) HT_ HW_ rfl rfl rfl (by kernel_rfl) (fun _ _ _ h => h) hS_ (by rfl) ?_ ?_ ?_; rotate_left 2; (rintro w' ⟨s0, s1, s2, s4, -⟩; go_simp; with_reducible rfl); (simp only [Act.put, List.setIfInBounds_toArray, List.set_cons_zero, List.set_cons_succ, i64_w, i32_w]; rfl)
       refine rU 40 41 (N := some 52) (a' := ?_) HT_ HW_ rfl rfl rfl (by kernel_rfl) (fun _ _ _ h => h) hS_ (by rfl) ?_ ?_; rotate_left; (simp only [Act.put, List.setIfInBounds_toArray, List.set_cons_zero, List.set_cons_succ, i64_w, i32_w]; rfl)
       refine rU 41 42 (N := some 53) (a' := ?_) HT_ HW_ rfl rfl rfl (by kernel_rfl) (fun _ _ _ h => h) hS_ (by rfl) ?_ ?_; rotate_left; (simp only [Act.put, List.setIfInBounds_toArray, List.set_cons_zero, List.set_cons_succ, i64_w, i32_w]; rfl)
       refine rU 42 43 (N := some 54) (a' := ?_) HT_ HW_ rfl rfl rfl (by kernel_rfl) (fun _ _ _ h => h) hS_ (by rfl) ?_ ?_; rotate_left; (simp only [Act.put, List.setIfInBounds_toArray, List.set_cons_zero, List.set_cons_succ, i64_w, i32_w]; rfl)
       refine rU 43 44 (N := some 55) (a' := ?_) HT_ HW_ rfl rfl rfl (by kernel_rfl) (fun _ _ _ h => h) hS_ (by rfl) ?_ ?_; rotate_left; (simp only [Act.put, List.setIfInBounds_toArray, List.set_cons_zero, List.set_cons_succ, i64_w, i32_w]; rfl)
       refine rU 44 45 (N := some 56) (a' := ?_) HT_ HW_ rfl rfl rfl (by kernel_rfl) (fun _ _ _ h => h) hS_ (by rfl) ?_ ?_; rotate_left; (simp only [Act.put, List.setIfInBounds_toArray, List.set_cons_zero, List.set_cons_succ, i64_w, i32_w]; rfl)
       refine rU 45 46 (N := some 57) (a' := ?_) HT_ HW_ rfl rfl rfl (by kernel_rfl) (fun _ _ _ h => h) hS_ (by rfl) ?_ ?_; rotate_left; (simp only [Act.put, List.setIfInBounds_toArray, List.set_cons_zero, List.set_cons_succ, i64_w, i32_w]; rfl)
       refine rU 46 47 (N := some 58) (a' := ?_) HT_ HW_ rfl rfl rfl (by kernel_rfl) (fun _ _ _ h => h) hS_ (by rfl) ?_ ?_; rotate_left; (simp only [Act.put, List.setIfInBounds_toArray, List.set_cons_zero, List.set_cons_succ, i64_w, i32_w]; rfl)
       refine rU 47 48 (N := some 59) (a' := ?_) HT_ HW_ rfl rfl rfl (by kernel_rfl) (fun _ _ _ h => h) hS_ (by rfl) ?_ ?_; rotate_left; (simp only [Act.put, List.setIfInBounds_toArray, List.set_cons_zero, List.set_cons_succ, i64_w, i32_w]; rfl)
       refine rU 48 49 (N := some 60) (a' := ?_) HT_ HW_ rfl rfl rfl (by kernel_rfl) (fun _ _ _ h => h) hS_ (by rfl) ?_ ?_; rotate_left; (simp only [Act.put, List.setIfInBounds_toArray, List.set_cons_zero, List.set_cons_succ, i64_w, i32_w]; rfl)
       refine rU 49 50 (N := some 61) (a' := ?_) HT_ HW_ rfl rfl rfl (by kernel_rfl) (fun _ _ _ h => h) hS_ (by rfl) ?_ ?_; rotate_left; (simp only [Act.put, List.setIfInBounds_toArray, List.set_cons_zero, List.set_cons_succ, i64_w, i32_w]; rfl)
       refine rU 50 51 (N := some 62) (a' := ?_) HT_ HW_ rfl rfl rfl (by kernel_rfl) (fun _ _ _ h => h) hS_ (by rfl) ?_ ?_; rotate_left; (simp only [Act.put, List.setIfInBounds_toArray, List.set_cons_zero, List.set_cons_succ, i64_w, i32_w]; rfl)
       refine rU 51 52 (N := some 63) (a' := ?_) HT_ HW_ rfl rfl rfl (by kernel_rfl) (fun _ _ _ h => h) hS_ (by rfl) ?_ ?_; rotate_left; (simp only [Act.put, List.setIfInBounds_toArray, List.set_cons_zero, List.set_cons_succ, i64_w, i32_w]; rfl)
       refine rU 52 53 (N := some 64) (a' := ?_) HT_ HW_ rfl rfl rfl (by kernel_rfl) (fun _ _ _ h => h) hS_ (by rfl) ?_ ?_; rotate_left; (simp only [Act.put, List.setIfInBounds_toArray, List.set_cons_zero, List.set_cons_succ, i64_w, i32_w]; rfl)
       refine rU 53 54 (N := some 65) (a' := ?_) HT_ HW_ rfl rfl rfl (by kernel_rfl) (fun _ _ _ h => h) hS_ (by rfl) ?_ ?_; rotate_left; (simp only [Act.put, List.setIfInBounds_toArray, List.set_cons_zero, List.set_cons_succ, i64_w, i32_w]; rfl)
       refine rL 54 55 (N := some 66) (v := ?_) (a' := ?_) HT_ HW_ rfl rfl rfl (by kernel_rfl) (fun _ _ _ h => h) hS_ (by rfl) ?_ ?_ ?_; rotate_left 2; (rintro w' ⟨s0, s1, s2, s4, -⟩; go_simp; with_reducible rfl); (simp only [Act.put, List.setIfInBounds_toArray, List.set_cons_zero, List.set_cons_succ, i64_w, i32_w]; rfl)
       refine rD HT_ (by kernel_rfl) ?_
       go_wp2
       go_ret
       exact ⟨ret_bool_ (goodG_no l kk hlt (by rw [GR.out]; simp [*, zeroB, rowOfB, HK.out, HLN.out])).symm, (FIN.out _ HBW.out).out⟩
      | true =>
       refine one_ (i := 26) (N := some 38) (upR 55 27) rfl rfl (one_of HT_.out (by kernel_rfl)) (by decide) (fun K hK => ?_)
       refine goes_ Try.func74 (by kernel_rfl) rfl #[.int .i64 y.f2] (by rfl) rfl rfl (by (try simp only [List.map_toArray, List.map_cons, List.map_nil]); first | done | rfl) ?_
       refine (specSum_any _ _ b3).mono ?_
       rintro e w' ⟨rfl, hb_⟩
       refine ⟨_, rfl, ?_⟩
       have n_ := Aside0.mk (below_then HBW.out HBW.out.size hb_); clear HBW hb_; have HBW := n_; clear n_
       refine hK.out _ _ ⟨(cells3_ (blk_below HA.out HBW.out)).1, (cells3_ (blk_below HA.out HBW.out)).2.1, (cells3_ (blk_below HA.out HBW.out)).2.2, pw_cell_below HBW.out hZ.out.2.2, fun h => pw_cell_below HBW.out (hP1.out h).2.2.1⟩ (fun hS_ => ?_)
       clear hK K
       refine norm_ (a' := ?_) ?_ ?_
       rotate_left
       (simp only [Act.put, List.setIfInBounds_toArray, List.set_cons_zero, List.set_cons_succ, i64_w, i32_w]; rfl)
       refine rL 27 28 (N := some 39) (v := ?_) (a' := ?_) HT_ HW_ rfl rfl rfl (by kernel_rfl) (fun _ _ _ h => h) hS_ (by rfl) ?_ ?_ ?_; rotate_left 2; (rintro w' ⟨s0, s1, s2, s4, -⟩; go_simp; with_reducible rfl); (simp only [Act.put, List.setIfInBounds_toArray, List.set_cons_zero, List.set_cons_succ, i64_w, i32_w]; rfl)
       refine rL 28 29 (N := some 40) (v := ?_) (a' := ?_) HT_ HW_ rfl rfl rfl (by kernel_rfl) (fun _ _ _ h => h) hS_ (by rfl) ?_ ?_ ?_; rotate_left 2; (rintro w' ⟨s0, s1, s2, s4, -⟩; go_simp; with_reducible rfl); (simp only [Act.put, List.setIfInBounds_toArray, List.set_cons_zero, List.set_cons_succ, i64_w, i32_w]; rfl)
       refine rL 29 30 (N := some 41) (v := ?_) (a' := ?_) HT_ HW_ rfl rfl rfl (by kernel_rfl) (fun _ _ _ h => h) hS_ (by rfl) ?_ ?_ ?_; rotate_left 2; (rintro w' ⟨s0, s1, s2, s4, -⟩; go_simp; with_reducible rfl); (simp only [Act.put, List.setIfInBounds_toArray, List.set_cons_zero, List.set_cons_succ, i64_w, i32_w]; rfl)
       refine rL 30 31 (N := some 42) (v := ?_) (a' := ?_) HT_ HW_ rfl rfl rfl (by kernel_rfl) (fun _ _ _ h => h) hS_ (by rfl) ?_ ?_ ?_; rotate_left 2; (rintro w' ⟨s0, s1, s2, s4, -⟩; go_simp; with_reducible rfl); (simp only [Act.put, List.setIfInBounds_toArray, List.set_cons_zero, List.set_cons_succ, i64_w, i32_w]; rfl)
       refine rL 31 32 (N := some 43) (v := ?_) (a' := ?_) HT_ HW_ rfl rfl rfl (by kernel_rfl) (fun _ _ _ h => h) hS_ (by rfl) ?_ ?_ ?_; rotate_left 2; (rintro w' ⟨s0, s1, s2, s4, -⟩; go_simp; with_reducible rfl); (simp only [Act.put, List.setIfInBounds_toArray, List.set_cons_zero, List.set_cons_succ, i64_w, i32_w]; rfl)
       by_cases hz1 : y.f1 = 0
       ·have z1 : (y.f1 == 0) = true := by simp [hz1]
        have HZ1 := Aside0.mk hz1; clear hz1
        refine rL 32 33 (N := some 44) (v := ?_) (a' := ?_) HT_ HW_ rfl rfl rfl (by kernel_rfl) (fun _ _ _ h => h) hS_ (by rfl) ?_ ?_ ?_; rotate_left 2; (rintro w' ⟨s0, s1, s2, s4, -⟩; go_simp; with_reducible rfl); (simp only [Act.put, List.setIfInBounds_toArray, List.set_cons_zero, List.set_cons_succ, i64_w, i32_w]; rfl)
        refine rL 33 34 (N := some 45) (v := ?_) (a' := ?_) HT_ HW_ rfl rfl rfl (by kernel_rfl) (fun _ _ _ h => h) hS_ (by rfl) ?_ ?_ ?_; rotate_left 2; (rintro w' ⟨s0, s1, s2, s4, -⟩; go_simp; with_reducible rfl); (simp only [Act.put, List.setIfInBounds_toArray, List.set_cons_zero, List.set_cons_succ, i64_w, i32_w]; rfl)
        refine rL 34 35 (N := some 46) (v := ?_) (a' := ?_) HT_ HW_ rfl rfl rfl (by kernel_rfl) (fun _ _ _ h => h) hS_ (by rfl) ?_ ?_ ?_; rotate_left 2; (rintro w' ⟨s0, s1, s2, s4, -⟩; go_simp; with_reducible rfl); (simp only [Act.put, List.setIfInBounds_toArray, List.set_cons_zero, List.set_cons_succ, i64_w, i32_w]; rfl)
        refine rL 35 36 (N := some 47) (v := ?_) (a' := ?_) HT_ HW_ rfl rfl rfl (by kernel_rfl) (fun _ _ _ h => h) hS_ (by rfl) ?_ ?_ ?_; rotate_left 2; (rintro w' ⟨s0, s1, s2, s4, -⟩; go_simp; with_reducible rfl); (simp only [Act.put, List.setIfInBounds_toArray, List.set_cons_zero, List.set_cons_succ, i64_w, i32_w]; rfl)
        by_cases hz2 : y.f2 = 0
        ·have z2 : (y.f2 == 0) = true := by simp [hz2]
         have HZ2 := Aside0.mk hz2; clear hz2
         refine rL 36 37 (N := some 48) (v := ?_) (a' := ?_) HT_ HW_ rfl rfl rfl (by kernel_rfl) (fun _ _ _ h => h) hS_ (by rfl) ?_ ?_ ?_; rotate_left 2; (rintro w' ⟨s0, s1, s2, s4, -⟩; go_simp; with_reducible rfl); (simp only [Act.put, List.setIfInBounds_toArray, List.set_cons_zero, List.set_cons_succ, i64_w, i32_w]; rfl)
         refine rL 37 38 (N := some 49) (v := ?_) (a' := ?_) HT_ HW_ rfl rfl rfl (by kernel_rfl) (fun _ _ _ h => h) hS_ (by rfl) ?_ ?_ ?_; rotate_left 2; (rintro w' ⟨s0, s1, s2, s4, -⟩; go_simp; with_reducible rfl); (simp only [Act.put, List.setIfInBounds_toArray, List.set_cons_zero, List.set_cons_succ, i64_w, i32_w]; rfl)
         refine rL 38 39 (N := some 50) (v := ?_) (a' := ?_) HT_ HW_ rfl rfl rfl (by kernel_rfl) (fun _ _ _ h => h) hS_ (by rfl) ?_ ?_ ?_; rotate_left 2; (rintro w' ⟨s0, s1, s2, s4, -⟩; go_simp; with_reducible rfl); (simp only [Act.put, List.setIfInBounds_toArray, List.set_cons_zero, List.set_cons_succ, i64_w, i32_w]; rfl)
         refine rL 39 40 (N := some 51) (v := ?_) (a' := ?_) HT_ HW_ rfl rfl rfl (by kernel_rfl) (fun _ _ _ h => h) hS_ (by rfl) ?_ ?_ ?_; rotate_left 2; (rintro w' ⟨s0, s1, s2, s4, -⟩; go_simp; with_reducible rfl); (simp only [Act.put, List.setIfInBounds_toArray, List.set_cons_zero, List.set_cons_succ, i64_w, i32_w]; rfl)
         refine rU 40 41 (N := some 52) (a' := ?_) HT_ HW_ rfl rfl rfl (by kernel_rfl) (fun _ _ _ h => h) hS_ (by rfl) ?_ ?_; rotate_left; (simp only [Act.put, List.setIfInBounds_toArray, List.set_cons_zero, List.set_cons_succ, i64_w, i32_w]; rfl)
         refine rU 41 42 (N := some 53) (a' := ?_) HT_ HW_ rfl rfl rfl (by kernel_rfl) (fun _ _ _ h => h) hS_ (by rfl) ?_ ?_; rotate_left; (simp only [Act.put, List.setIfInBounds_toArray, List.set_cons_zero, List.set_cons_succ, i64_w, i32_w]; rfl)
         refine rU 42 43 (N := some 54) (a' := ?_) HT_ HW_ rfl rfl rfl (by kernel_rfl) (fun _ _ _ h => h) hS_ (by rfl) ?_ ?_; rotate_left; (simp only [Act.put, List.setIfInBounds_toArray, List.set_cons_zero, List.set_cons_succ, i64_w, i32_w]; rfl)
         refine rU 43 44 (N := some 55) (a' := ?_) HT_ HW_ rfl rfl rfl (by kernel_rfl) (fun _ _ _ h => h) hS_ (by rfl) ?_ ?_; rotate_left; (simp only [Act.put, List.setIfInBounds_toArray, List.set_cons_zero, List.set_cons_succ, i64_w, i32_w]; rfl)
         refine rU 44 45 (N := some 56) (a' := ?_) HT_ HW_ rfl rfl rfl (by kernel_rfl) (fun _ _ _ h => h) hS_ (by rfl) ?_ ?_; rotate_left; (simp only [Act.put, List.setIfInBounds_toArray, List.set_cons_zero, List.set_cons_succ, i64_w, i32_w]; rfl)
         refine rU 45 46 (N := some 57) (a' := ?_) HT_ HW_ rfl rfl rfl (by kernel_rfl) (fun _ _ _ h => h) hS_ (by rfl) ?_ ?_; rotate_left; (simp only [Act.put, List.setIfInBounds_toArray, List.set_cons_zero, List.set_cons_succ, i64_w, i32_w]; rfl)
         refine rU 46 47 (N := some 58) (a' := ?_) HT_ HW_ rfl rfl rfl (by kernel_rfl) (fun _ _ _ h => h) hS_ (by rfl) ?_ ?_; rotate_left; (simp only [Act.put, List.setIfInBounds_toArray, List.set_cons_zero, List.set_cons_succ, i64_w, i32_w]; rfl)
         refine rU 47 48 (N := some 59) (a' := ?_) HT_ HW_ rfl rfl rfl (by kernel_rfl) (fun _ _ _ h => h) hS_ (by rfl) ?_ ?_; rotate_left; (simp only [Act.put, List.setIfInBounds_toArray, List.set_cons_zero, List.set_cons_succ, i64_w, i32_w]; rfl)
         refine rU 48 49 (N := some 60) (a' := ?_) HT_ HW_ rfl rfl rfl (by kernel_rfl) (fun _ _ _ h => h) hS_ (by rfl) ?_ ?_; rotate_left; (simp only [Act.put, List.setIfInBounds_toArray, List.set_cons_zero, List.set_cons_succ, i64_w, i32_w]; rfl)
         refine rU 49 50 (N := some 61) (a' := ?_) HT_ HW_ rfl rfl rfl (by kernel_rfl) (fun _ _ _ h => h) hS_ (by rfl) ?_ ?_; rotate_left; (simp only [Act.put, List.setIfInBounds_toArray, List.set_cons_zero, List.set_cons_succ, i64_w, i32_w]; rfl)
         refine rU 50 51 (N := some 62) (a' := ?_) HT_ HW_ rfl rfl rfl (by kernel_rfl) (fun _ _ _ h => h) hS_ (by rfl) ?_ ?_; rotate_left; (simp only [Act.put, List.setIfInBounds_toArray, List.set_cons_zero, List.set_cons_succ, i64_w, i32_w]; rfl)
         refine rU 51 52 (N := some 63) (a' := ?_) HT_ HW_ rfl rfl rfl (by kernel_rfl) (fun _ _ _ h => h) hS_ (by rfl) ?_ ?_; rotate_left; (simp only [Act.put, List.setIfInBounds_toArray, List.set_cons_zero, List.set_cons_succ, i64_w, i32_w]; rfl)
         refine rU 52 53 (N := some 64) (a' := ?_) HT_ HW_ rfl rfl rfl (by kernel_rfl) (fun _ _ _ h => h) hS_ (by rfl) ?_ ?_; rotate_left; (simp only [Act.put, List.setIfInBounds_toArray, List.set_cons_zero, List.set_cons_succ, i64_w, i32_w]; rfl)
         refine rU 53 54 (N := some 65) (a' := ?_) HT_ HW_ rfl rfl rfl (by kernel_rfl) (fun _ _ _ h => h) hS_ (by rfl) ?_ ?_; rotate_left; (simp only [Act.put, List.setIfInBounds_toArray, List.set_cons_zero, List.set_cons_succ, i64_w, i32_w]; rfl)
         refine rL 54 55 (N := some 66) (v := ?_) (a' := ?_) HT_ HW_ rfl rfl rfl (by kernel_rfl) (fun _ _ _ h => h) hS_ (by rfl) ?_ ?_ ?_; rotate_left 2; (rintro w' ⟨s0, s1, s2, s4, -⟩; go_simp; with_reducible rfl); (simp only [Act.put, List.setIfInBounds_toArray, List.set_cons_zero, List.set_cons_succ, i64_w, i32_w]; rfl)
         refine rD HT_ (by kernel_rfl) ?_
         go_wp2
         go_ret
         exact ⟨ret_bool_ (goodG_no l kk hlt (by rw [GR.out]; simp [*, zeroB, HZ1.out, HZ2.out, rowOfB, HK.out, HLN.out])).symm, (FIN.out _ HBW.out).out⟩
        ·have z2 : (y.f2 == 0) = false := by simp [hz2]
         refine rL 36 37 (N := some 48) (v := ?_) (a' := ?_) HT_ HW_ rfl rfl rfl (by kernel_rfl) (fun _ _ _ h => h) hS_ (by rfl) ?_ ?_ ?_; rotate_left 2; (rintro w' ⟨s0, s1, s2, s4, -⟩; go_simp; with_reducible rfl); (simp only [Act.put, List.setIfInBounds_toArray, List.set_cons_zero, List.set_cons_succ, i64_w, i32_w]; rfl)
         refine rL 37 38 (N := some 49) (v := ?_) (a' := ?_) HT_ HW_ rfl rfl rfl (by kernel_rfl) (fun _ _ _ h => h) hS_ (by rfl) ?_ ?_ ?_; rotate_left 2; (rintro w' ⟨s0, s1, s2, s4, -⟩; go_simp; with_reducible rfl); (simp only [Act.put, List.setIfInBounds_toArray, List.set_cons_zero, List.set_cons_succ, i64_w, i32_w]; rfl)
         refine rL 38 39 (N := some 50) (v := ?_) (a' := ?_) HT_ HW_ rfl rfl rfl (by kernel_rfl) (fun _ _ _ h => h) hS_ (by rfl) ?_ ?_ ?_; rotate_left 2; (rintro w' ⟨s0, s1, s2, s4, -⟩; go_simp; with_reducible rfl); (simp only [Act.put, List.setIfInBounds_toArray, List.set_cons_zero, List.set_cons_succ, i64_w, i32_w]; rfl)
         refine rL 39 40 (N := some 51) (v := ?_) (a' := ?_) HT_ HW_ rfl rfl rfl (by kernel_rfl) (fun _ _ _ h => h) hS_ (by rfl) ?_ ?_ ?_; rotate_left 2; (rintro w' ⟨s0, s1, s2, s4, -⟩; go_simp; with_reducible rfl); (simp only [Act.put, List.setIfInBounds_toArray, List.set_cons_zero, List.set_cons_succ, i64_w, i32_w]; rfl)
         refine rL 40 41 (N := some 52) (v := ?_) (a' := ?_) HT_ HW_ rfl rfl rfl (by kernel_rfl) (fun _ _ _ h => h) hS_ (by rfl) ?_ ?_ ?_; rotate_left 2; (rintro w' ⟨s0, s1, s2, s4, -⟩; go_simp; with_reducible rfl); (simp only [Act.put, List.setIfInBounds_toArray, List.set_cons_zero, List.set_cons_succ, i64_w, i32_w]; rfl)
         by_cases hpos : 0 < kk
         ·have hw1 : IntKind.i64.wrap ((kk : Int) - 1) = (kk : Int) - 1 := IntWalk.i64_in _ (by omega)
          have hw2 : 1 ≤ (kk : Int) := by omega
          have hw3 : (kk : Int) - 1 < (l.length : Int) := by omega
          refine rL 41 42 (N := some 53) (v := ?_) (a' := ?_) HT_ HW_ rfl rfl rfl (by kernel_rfl) (fun _ _ _ h => h) hS_ (by rfl) ?_ ?_ ?_; rotate_left 2; (rintro w' ⟨s0, s1, s2, s4, s3⟩; have s3 := s3 hpos; go_simp; with_reducible rfl); (simp only [Act.put, List.setIfInBounds_toArray, List.set_cons_zero, List.set_cons_succ, i64_w, i32_w]; rfl)
          refine rL 42 43 (N := some 54) (v := ?_) (a' := ?_) HT_ HW_ rfl rfl rfl (by kernel_rfl) (fun _ _ _ h => h) hS_ (by rfl) ?_ ?_ ?_; rotate_left 2; (rintro w' ⟨s0, s1, s2, s4, s3⟩; have s3 := s3 hpos; go_simp; with_reducible rfl); (simp only [Act.put, List.setIfInBounds_toArray, List.set_cons_zero, List.set_cons_succ, i64_w, i32_w]; rfl)
          refine rL 43 44 (N := some 55) (v := ?_) (a' := ?_) HT_ HW_ rfl rfl rfl (by kernel_rfl) (fun _ _ _ h => h) hS_ (by rfl) ?_ ?_ ?_; rotate_left 2; (rintro w' ⟨s0, s1, s2, s4, s3⟩; have s3 := s3 hpos; go_simp; with_reducible rfl); (simp only [Act.put, List.setIfInBounds_toArray, List.set_cons_zero, List.set_cons_succ, i64_w, i32_w]; rfl)
          refine rL 44 45 (N := some 56) (v := ?_) (a' := ?_) HT_ HW_ rfl rfl rfl (by kernel_rfl) (fun _ _ _ h => h) hS_ (by rfl) ?_ ?_ ?_; rotate_left 2; (rintro w' ⟨s0, s1, s2, s4, s3⟩; have s3 := s3 hpos; go_simp; with_reducible rfl); (simp only [Act.put, List.setIfInBounds_toArray, List.set_cons_zero, List.set_cons_succ, i64_w, i32_w]; rfl)
          refine rL 45 46 (N := some 57) (v := ?_) (a' := ?_) HT_ HW_ rfl rfl rfl (by kernel_rfl) (fun _ _ _ h => h) hS_ (by rfl) ?_ ?_ ?_; rotate_left 2; (rintro w' ⟨s0, s1, s2, s4, s3⟩; have s3 := s3 hpos; go_simp; with_reducible rfl); (simp only [Act.put, List.setIfInBounds_toArray, List.set_cons_zero, List.set_cons_succ, i64_w, i32_w]; rfl)
          refine rL 46 47 (N := some 58) (v := ?_) (a' := ?_) HT_ HW_ rfl rfl rfl (by kernel_rfl) (fun _ _ _ h => h) hS_ (by rfl) ?_ ?_ ?_; rotate_left 2; (rintro w' ⟨s0, s1, s2, s4, s3⟩; have s3 := s3 hpos; go_simp; with_reducible rfl); (simp only [Act.put, List.setIfInBounds_toArray, List.set_cons_zero, List.set_cons_succ, i64_w, i32_w]; rfl)
          refine rL 47 48 (N := some 59) (v := ?_) (a' := ?_) HT_ HW_ rfl rfl rfl (by kernel_rfl) (fun _ _ _ h => h) hS_ (by rfl) ?_ ?_ ?_; rotate_left 2; (rintro w' ⟨s0, s1, s2, s4, s3⟩; have s3 := s3 hpos; go_simp; with_reducible rfl); (simp only [Act.put, List.setIfInBounds_toArray, List.set_cons_zero, List.set_cons_succ, i64_w, i32_w]; rfl)
          refine rL 48 49 (N := some 60) (v := ?_) (a' := ?_) HT_ HW_ rfl rfl rfl (by kernel_rfl) (fun _ _ _ h => h) hS_ (by rfl) ?_ ?_ ?_; rotate_left 2; (rintro w' ⟨s0, s1, s2, s4, s3⟩; have s3 := s3 hpos; go_simp; with_reducible rfl); (simp only [Act.put, List.setIfInBounds_toArray, List.set_cons_zero, List.set_cons_succ, i64_w, i32_w]; rfl)
          refine rL 49 50 (N := some 61) (v := ?_) (a' := ?_) HT_ HW_ rfl rfl rfl (by kernel_rfl) (fun _ _ _ h => h) hS_ (by rfl) ?_ ?_ ?_; rotate_left 2; (rintro w' ⟨s0, s1, s2, s4, s3⟩; have s3 := s3 hpos; go_simp; with_reducible rfl); (simp only [Act.put, List.setIfInBounds_toArray, List.set_cons_zero, List.set_cons_succ, i64_w, i32_w]; rfl)
          refine rL 50 51 (N := some 62) (v := ?_) (a' := ?_) HT_ HW_ rfl rfl rfl (by kernel_rfl) (fun _ _ _ h => h) hS_ (by rfl) ?_ ?_ ?_; rotate_left 2; (rintro w' ⟨s0, s1, s2, s4, s3⟩; have s3 := s3 hpos; go_simp; with_reducible rfl); (simp only [Act.put, List.setIfInBounds_toArray, List.set_cons_zero, List.set_cons_succ, i64_w, i32_w]; rfl)
          refine one_ (i := 51) (N := some 63) (upR 55 52) rfl rfl (one_of HT_.out (by kernel_rfl)) (by decide) (fun K hK => ?_)
          refine goes_ Try.func40 (by kernel_rfl) rfl #[.agg #[.slice A1 p.f0.f0.length c1], .agg #[.slice A0_ y.f0.f0.length c0_]] (by rfl) rfl rfl (by (try simp only [List.map_toArray, List.map_cons, List.map_nil]); first | done | rfl) ?_
          refine ((HCV.out ▸ specCompare_any _ _ _ _ _ _ _ (Kd.C_below (hP1.out hpos).2.1 HBW.out) (hP1.out hpos).1 (Kd.C_below HCy.out HBW.out) HC.out.1 (hP1.out hpos).2.2.2 (by have := goodRow_len b0; omega))).mono ?_
          rintro e w' ⟨rfl, hb_⟩
          refine ⟨_, rfl, ?_⟩
          have n_ := Aside0.mk (below_then HBW.out HBW.out.size hb_); clear HBW hb_; have HBW := n_; clear n_
          refine hK.out _ _ ⟨(cells3_ (blk_below HA.out HBW.out)).1, (cells3_ (blk_below HA.out HBW.out)).2.1, (cells3_ (blk_below HA.out HBW.out)).2.2, pw_cell_below HBW.out hZ.out.2.2, fun h => pw_cell_below HBW.out (hP1.out h).2.2.1⟩ (fun hS_ => ?_)
          clear hK K
          refine norm_ (a' := ?_) ?_ ?_
          rotate_left
          (simp only [Act.put, List.setIfInBounds_toArray, List.set_cons_zero, List.set_cons_succ, i64_w, i32_w]; rfl)
          by_cases hcz : 0 ≤ cv
          ·have hcb : decide (0 ≤ cv) = true := decide_eq_true hcz
           refine rL 52 53 (N := some 64) (v := ?_) (a' := ?_) HT_ HW_ rfl rfl rfl (by kernel_rfl) (fun _ _ _ h => h) hS_ (by rfl) ?_ ?_ ?_; rotate_left 2; (rintro w' ⟨s0, s1, s2, s4, -⟩; go_simp; with_reducible rfl); (simp only [Act.put, List.setIfInBounds_toArray, List.set_cons_zero, List.set_cons_succ, i64_w, i32_w]; rfl)
           refine rL 53 54 (N := some 65) (v := ?_) (a' := ?_) HT_ HW_ rfl rfl rfl (by kernel_rfl) (fun _ _ _ h => h) hS_ (by rfl) ?_ ?_ ?_; rotate_left 2; (rintro w' ⟨s0, s1, s2, s4, -⟩; go_simp; with_reducible rfl); (simp only [Act.put, List.setIfInBounds_toArray, List.set_cons_zero, List.set_cons_succ, i64_w, i32_w]; rfl)
           refine rL 54 55 (N := some 66) (v := ?_) (a' := ?_) HT_ HW_ rfl rfl rfl (by kernel_rfl) (fun _ _ _ h => h) hS_ (by rfl) ?_ ?_ ?_; rotate_left 2; (rintro w' ⟨s0, s1, s2, s4, -⟩; go_simp; with_reducible rfl); (simp only [Act.put, List.setIfInBounds_toArray, List.set_cons_zero, List.set_cons_succ, i64_w, i32_w]; rfl)
           clear hw1 hw2 hw3
           refine rD HT_ (by kernel_rfl) ?_
           go_wp2
           go_ret
           exact ⟨ret_bool_ (goodG_no l kk hlt (by rw [GR.out]; simp [*, zeroB, rowOfB, HK.out, HLN.out])).symm, (FIN.out _ HBW.out).out⟩
          ·have hcb : decide (0 ≤ cv) = false := decide_eq_false hcz
           refine rL 52 53 (N := some 64) (v := ?_) (a' := ?_) HT_ HW_ rfl rfl rfl (by kernel_rfl) (fun _ _ _ h => h) hS_ (by rfl) ?_ ?_ ?_; rotate_left 2; (rintro w' ⟨s0, s1, s2, s4, -⟩; go_simp; with_reducible rfl); (simp only [Act.put, List.setIfInBounds_toArray, List.set_cons_zero, List.set_cons_succ, i64_w, i32_w]; rfl)
           refine rL 53 54 (N := some 65) (v := ?_) (a' := ?_) HT_ HW_ rfl rfl rfl (by kernel_rfl) (fun _ _ _ h => h) hS_ (by rfl) ?_ ?_ ?_; rotate_left 2; (rintro w' ⟨s0, s1, s2, s4, -⟩; go_simp; with_reducible rfl); (simp only [Act.put, List.setIfInBounds_toArray, List.set_cons_zero, List.set_cons_succ, i64_w, i32_w]; rfl)
           refine rL 54 55 (N := some 66) (v := ?_) (a' := ?_) HT_ HW_ rfl rfl rfl (by kernel_rfl) (fun _ _ _ h => h) hS_ (by rfl) ?_ ?_ ?_; rotate_left 2; (rintro w' ⟨s0, s1, s2, s4, -⟩; go_simp; with_reducible rfl); (simp only [Act.put, List.setIfInBounds_toArray, List.set_cons_zero, List.set_cons_succ, i64_w, i32_w]; rfl)
           clear hw1 hw2 hw3
           refine rD HT_ (by kernel_rfl) ?_
           go_wp2
           go_roundg (l.length - (kk + 1))
           case measure => omega
           case rel =>
            refine ⟨kk + 1, by omega, by omega, by go_num, FIN.out _ HBW.out, ⟨fun j hj => ?_⟩⟩
            by_cases e : j = kk
            ·subst e; rw [GR.out]; simp [*, zeroB, rowOfB, HK.out, HLN.out]
            ·exact F.out j (by omega)
         ·have hkz : ¬ (0 : Int) < (kk : Int) := by omega
          refine rL 41 42 (N := some 53) (v := ?_) (a' := ?_) HT_ HW_ rfl rfl rfl (by kernel_rfl) (fun _ _ _ h => h) hS_ (by rfl) ?_ ?_ ?_; rotate_left 2; (rintro w' ⟨s0, s1, s2, s4, -⟩; go_simp; with_reducible rfl); (simp only [Act.put, List.setIfInBounds_toArray, List.set_cons_zero, List.set_cons_succ, i64_w, i32_w]; rfl)
          refine rL 42 43 (N := some 54) (v := ?_) (a' := ?_) HT_ HW_ rfl rfl rfl (by kernel_rfl) (fun _ _ _ h => h) hS_ (by rfl) ?_ ?_ ?_; rotate_left 2; (rintro w' ⟨s0, s1, s2, s4, -⟩; go_simp; with_reducible rfl); (simp only [Act.put, List.setIfInBounds_toArray, List.set_cons_zero, List.set_cons_succ, i64_w, i32_w]; rfl)
          refine rU 43 44 (N := some 55) (a' := ?_) HT_ HW_ rfl rfl rfl (by kernel_rfl) (fun _ _ _ h => h) hS_ (by rfl) ?_ ?_; rotate_left; (simp only [Act.put, List.setIfInBounds_toArray, List.set_cons_zero, List.set_cons_succ, i64_w, i32_w]; rfl)
          refine rU 44 45 (N := some 56) (a' := ?_) HT_ HW_ rfl rfl rfl (by kernel_rfl) (fun _ _ _ h => h) hS_ (by rfl) ?_ ?_; rotate_left; (simp only [Act.put, List.setIfInBounds_toArray, List.set_cons_zero, List.set_cons_succ, i64_w, i32_w]; rfl)
          refine rU 45 46 (N := some 57) (a' := ?_) HT_ HW_ rfl rfl rfl (by kernel_rfl) (fun _ _ _ h => h) hS_ (by rfl) ?_ ?_; rotate_left; (simp only [Act.put, List.setIfInBounds_toArray, List.set_cons_zero, List.set_cons_succ, i64_w, i32_w]; rfl)
          refine rU 46 47 (N := some 58) (a' := ?_) HT_ HW_ rfl rfl rfl (by kernel_rfl) (fun _ _ _ h => h) hS_ (by rfl) ?_ ?_; rotate_left; (simp only [Act.put, List.setIfInBounds_toArray, List.set_cons_zero, List.set_cons_succ, i64_w, i32_w]; rfl)
          refine rU 47 48 (N := some 59) (a' := ?_) HT_ HW_ rfl rfl rfl (by kernel_rfl) (fun _ _ _ h => h) hS_ (by rfl) ?_ ?_; rotate_left; (simp only [Act.put, List.setIfInBounds_toArray, List.set_cons_zero, List.set_cons_succ, i64_w, i32_w]; rfl)
          refine rU 48 49 (N := some 60) (a' := ?_) HT_ HW_ rfl rfl rfl (by kernel_rfl) (fun _ _ _ h => h) hS_ (by rfl) ?_ ?_; rotate_left; (simp only [Act.put, List.setIfInBounds_toArray, List.set_cons_zero, List.set_cons_succ, i64_w, i32_w]; rfl)
          refine rU 49 50 (N := some 61) (a' := ?_) HT_ HW_ rfl rfl rfl (by kernel_rfl) (fun _ _ _ h => h) hS_ (by rfl) ?_ ?_; rotate_left; (simp only [Act.put, List.setIfInBounds_toArray, List.set_cons_zero, List.set_cons_succ, i64_w, i32_w]; rfl)
          refine rU 50 51 (N := some 62) (a' := ?_) HT_ HW_ rfl rfl rfl (by kernel_rfl) (fun _ _ _ h => h) hS_ (by rfl) ?_ ?_; rotate_left; (simp only [Act.put, List.setIfInBounds_toArray, List.set_cons_zero, List.set_cons_succ, i64_w, i32_w]; rfl)
          refine rU 51 52 (N := some 63) (a' := ?_) HT_ HW_ rfl rfl rfl (by kernel_rfl) (fun _ _ _ h => h) hS_ (by rfl) ?_ ?_; rotate_left; (simp only [Act.put, List.setIfInBounds_toArray, List.set_cons_zero, List.set_cons_succ, i64_w, i32_w]; rfl)
          refine rU 52 53 (N := some 64) (a' := ?_) HT_ HW_ rfl rfl rfl (by kernel_rfl) (fun _ _ _ h => h) hS_ (by rfl) ?_ ?_; rotate_left; (simp only [Act.put, List.setIfInBounds_toArray, List.set_cons_zero, List.set_cons_succ, i64_w, i32_w]; rfl)
          refine rL 53 54 (N := some 65) (v := ?_) (a' := ?_) HT_ HW_ rfl rfl rfl (by kernel_rfl) (fun _ _ _ h => h) hS_ (by rfl) ?_ ?_ ?_; rotate_left 2; (rintro w' ⟨s0, s1, s2, s4, -⟩; go_simp; with_reducible rfl); (simp only [Act.put, List.setIfInBounds_toArray, List.set_cons_zero, List.set_cons_succ, i64_w, i32_w]; rfl)
          refine rL 54 55 (N := some 66) (v := ?_) (a' := ?_) HT_ HW_ rfl rfl rfl (by kernel_rfl) (fun _ _ _ h => h) hS_ (by rfl) ?_ ?_ ?_; rotate_left 2; (rintro w' ⟨s0, s1, s2, s4, -⟩; go_simp; with_reducible rfl); (simp only [Act.put, List.setIfInBounds_toArray, List.set_cons_zero, List.set_cons_succ, i64_w, i32_w]; rfl)
          clear hkz
          refine rD HT_ (by kernel_rfl) ?_
          go_wp2
          go_roundg (l.length - (kk + 1))
          case measure => omega
          case rel =>
           refine ⟨kk + 1, by omega, by omega, by go_num, FIN.out _ HBW.out, ⟨fun j hj => ?_⟩⟩
           by_cases e : j = kk
           ·subst e; rw [GR.out]; simp [*, zeroB, rowOfB, HK.out, HLN.out]
           ·exact F.out j (by omega)
       ·have z1 : (y.f1 == 0) = false := by simp [hz1]
        refine rL 32 33 (N := some 44) (v := ?_) (a' := ?_) HT_ HW_ rfl rfl rfl (by kernel_rfl) (fun _ _ _ h => h) hS_ (by rfl) ?_ ?_ ?_; rotate_left 2; (rintro w' ⟨s0, s1, s2, s4, -⟩; go_simp; with_reducible rfl); (simp only [Act.put, List.setIfInBounds_toArray, List.set_cons_zero, List.set_cons_succ, i64_w, i32_w]; rfl)
        refine rL 33 34 (N := some 45) (v := ?_) (a' := ?_) HT_ HW_ rfl rfl rfl (by kernel_rfl) (fun _ _ _ h => h) hS_ (by rfl) ?_ ?_ ?_; rotate_left 2; (rintro w' ⟨s0, s1, s2, s4, -⟩; go_simp; with_reducible rfl); (simp only [Act.put, List.setIfInBounds_toArray, List.set_cons_zero, List.set_cons_succ, i64_w, i32_w]; rfl)
        refine rU 34 35 (N := some 46) (a' := ?_) HT_ HW_ rfl rfl rfl (by kernel_rfl) (fun _ _ _ h => h) hS_ (by rfl) ?_ ?_; rotate_left; (simp only [Act.put, List.setIfInBounds_toArray, List.set_cons_zero, List.set_cons_succ, i64_w, i32_w]; rfl)
        refine rU 35 36 (N := some 47) (a' := ?_) HT_ HW_ rfl rfl rfl (by kernel_rfl) (fun _ _ _ h => h) hS_ (by rfl) ?_ ?_; rotate_left; (simp only [Act.put, List.setIfInBounds_toArray, List.set_cons_zero, List.set_cons_succ, i64_w, i32_w]; rfl)
        refine rU 36 37 (N := some 48) (a' := ?_) HT_ HW_ rfl rfl rfl (by kernel_rfl) (fun _ _ _ h => h) hS_ (by rfl) ?_ ?_; rotate_left; (simp only [Act.put, List.setIfInBounds_toArray, List.set_cons_zero, List.set_cons_succ, i64_w, i32_w]; rfl)
        refine rL 37 38 (N := some 49) (v := ?_) (a' := ?_) HT_ HW_ rfl rfl rfl (by kernel_rfl) (fun _ _ _ h => h) hS_ (by rfl) ?_ ?_ ?_; rotate_left 2; (rintro w' ⟨s0, s1, s2, s4, -⟩; go_simp; with_reducible rfl); (simp only [Act.put, List.setIfInBounds_toArray, List.set_cons_zero, List.set_cons_succ, i64_w, i32_w]; rfl)
        refine rL 38 39 (N := some 50) (v := ?_) (a' := ?_) HT_ HW_ rfl rfl rfl (by kernel_rfl) (fun _ _ _ h => h) hS_ (by rfl) ?_ ?_ ?_; rotate_left 2; (rintro w' ⟨s0, s1, s2, s4, -⟩; go_simp; with_reducible rfl); (simp only [Act.put, List.setIfInBounds_toArray, List.set_cons_zero, List.set_cons_succ, i64_w, i32_w]; rfl)
        refine rL 39 40 (N := some 51) (v := ?_) (a' := ?_) HT_ HW_ rfl rfl rfl (by kernel_rfl) (fun _ _ _ h => h) hS_ (by rfl) ?_ ?_ ?_; rotate_left 2; (rintro w' ⟨s0, s1, s2, s4, -⟩; go_simp; with_reducible rfl); (simp only [Act.put, List.setIfInBounds_toArray, List.set_cons_zero, List.set_cons_succ, i64_w, i32_w]; rfl)
        refine rL 40 41 (N := some 52) (v := ?_) (a' := ?_) HT_ HW_ rfl rfl rfl (by kernel_rfl) (fun _ _ _ h => h) hS_ (by rfl) ?_ ?_ ?_; rotate_left 2; (rintro w' ⟨s0, s1, s2, s4, -⟩; go_simp; with_reducible rfl); (simp only [Act.put, List.setIfInBounds_toArray, List.set_cons_zero, List.set_cons_succ, i64_w, i32_w]; rfl)
        by_cases hpos : 0 < kk
        ·have hw1 : IntKind.i64.wrap ((kk : Int) - 1) = (kk : Int) - 1 := IntWalk.i64_in _ (by omega)
         have hw2 : 1 ≤ (kk : Int) := by omega
         have hw3 : (kk : Int) - 1 < (l.length : Int) := by omega
         refine rL 41 42 (N := some 53) (v := ?_) (a' := ?_) HT_ HW_ rfl rfl rfl (by kernel_rfl) (fun _ _ _ h => h) hS_ (by rfl) ?_ ?_ ?_; rotate_left 2; (rintro w' ⟨s0, s1, s2, s4, s3⟩; have s3 := s3 hpos; go_simp; with_reducible rfl); (simp only [Act.put, List.setIfInBounds_toArray, List.set_cons_zero, List.set_cons_succ, i64_w, i32_w]; rfl)
         refine rL 42 43 (N := some 54) (v := ?_) (a' := ?_) HT_ HW_ rfl rfl rfl (by kernel_rfl) (fun _ _ _ h => h) hS_ (by rfl) ?_ ?_ ?_; rotate_left 2; (rintro w' ⟨s0, s1, s2, s4, s3⟩; have s3 := s3 hpos; go_simp; with_reducible rfl); (simp only [Act.put, List.setIfInBounds_toArray, List.set_cons_zero, List.set_cons_succ, i64_w, i32_w]; rfl)
         refine rL 43 44 (N := some 55) (v := ?_) (a' := ?_) HT_ HW_ rfl rfl rfl (by kernel_rfl) (fun _ _ _ h => h) hS_ (by rfl) ?_ ?_ ?_; rotate_left 2; (rintro w' ⟨s0, s1, s2, s4, s3⟩; have s3 := s3 hpos; go_simp; with_reducible rfl); (simp only [Act.put, List.setIfInBounds_toArray, List.set_cons_zero, List.set_cons_succ, i64_w, i32_w]; rfl)
         refine rL 44 45 (N := some 56) (v := ?_) (a' := ?_) HT_ HW_ rfl rfl rfl (by kernel_rfl) (fun _ _ _ h => h) hS_ (by rfl) ?_ ?_ ?_; rotate_left 2; (rintro w' ⟨s0, s1, s2, s4, s3⟩; have s3 := s3 hpos; go_simp; with_reducible rfl); (simp only [Act.put, List.setIfInBounds_toArray, List.set_cons_zero, List.set_cons_succ, i64_w, i32_w]; rfl)
         refine rL 45 46 (N := some 57) (v := ?_) (a' := ?_) HT_ HW_ rfl rfl rfl (by kernel_rfl) (fun _ _ _ h => h) hS_ (by rfl) ?_ ?_ ?_; rotate_left 2; (rintro w' ⟨s0, s1, s2, s4, s3⟩; have s3 := s3 hpos; go_simp; with_reducible rfl); (simp only [Act.put, List.setIfInBounds_toArray, List.set_cons_zero, List.set_cons_succ, i64_w, i32_w]; rfl)
         refine rL 46 47 (N := some 58) (v := ?_) (a' := ?_) HT_ HW_ rfl rfl rfl (by kernel_rfl) (fun _ _ _ h => h) hS_ (by rfl) ?_ ?_ ?_; rotate_left 2; (rintro w' ⟨s0, s1, s2, s4, s3⟩; have s3 := s3 hpos; go_simp; with_reducible rfl); (simp only [Act.put, List.setIfInBounds_toArray, List.set_cons_zero, List.set_cons_succ, i64_w, i32_w]; rfl)
         refine rL 47 48 (N := some 59) (v := ?_) (a' := ?_) HT_ HW_ rfl rfl rfl (by kernel_rfl) (fun _ _ _ h => h) hS_ (by rfl) ?_ ?_ ?_; rotate_left 2; (rintro w' ⟨s0, s1, s2, s4, s3⟩; have s3 := s3 hpos; go_simp; with_reducible rfl); (simp only [Act.put, List.setIfInBounds_toArray, List.set_cons_zero, List.set_cons_succ, i64_w, i32_w]; rfl)
         refine rL 48 49 (N := some 60) (v := ?_) (a' := ?_) HT_ HW_ rfl rfl rfl (by kernel_rfl) (fun _ _ _ h => h) hS_ (by rfl) ?_ ?_ ?_; rotate_left 2; (rintro w' ⟨s0, s1, s2, s4, s3⟩; have s3 := s3 hpos; go_simp; with_reducible rfl); (simp only [Act.put, List.setIfInBounds_toArray, List.set_cons_zero, List.set_cons_succ, i64_w, i32_w]; rfl)
         refine rL 49 50 (N := some 61) (v := ?_) (a' := ?_) HT_ HW_ rfl rfl rfl (by kernel_rfl) (fun _ _ _ h => h) hS_ (by rfl) ?_ ?_ ?_; rotate_left 2; (rintro w' ⟨s0, s1, s2, s4, s3⟩; have s3 := s3 hpos; go_simp; with_reducible rfl); (simp only [Act.put, List.setIfInBounds_toArray, List.set_cons_zero, List.set_cons_succ, i64_w, i32_w]; rfl)
         refine rL 50 51 (N := some 62) (v := ?_) (a' := ?_) HT_ HW_ rfl rfl rfl (by kernel_rfl) (fun _ _ _ h => h) hS_ (by rfl) ?_ ?_ ?_; rotate_left 2; (rintro w' ⟨s0, s1, s2, s4, s3⟩; have s3 := s3 hpos; go_simp; with_reducible rfl); (simp only [Act.put, List.setIfInBounds_toArray, List.set_cons_zero, List.set_cons_succ, i64_w, i32_w]; rfl)
         refine one_ (i := 51) (N := some 63) (upR 55 52) rfl rfl (one_of HT_.out (by kernel_rfl)) (by decide) (fun K hK => ?_)
         refine goes_ Try.func40 (by kernel_rfl) rfl #[.agg #[.slice A1 p.f0.f0.length c1], .agg #[.slice A0_ y.f0.f0.length c0_]] (by rfl) rfl rfl (by (try simp only [List.map_toArray, List.map_cons, List.map_nil]); first | done | rfl) ?_
         refine ((HCV.out ▸ specCompare_any _ _ _ _ _ _ _ (Kd.C_below (hP1.out hpos).2.1 HBW.out) (hP1.out hpos).1 (Kd.C_below HCy.out HBW.out) HC.out.1 (hP1.out hpos).2.2.2 (by have := goodRow_len b0; omega))).mono ?_
         rintro e w' ⟨rfl, hb_⟩
         refine ⟨_, rfl, ?_⟩
         have n_ := Aside0.mk (below_then HBW.out HBW.out.size hb_); clear HBW hb_; have HBW := n_; clear n_
         refine hK.out _ _ ⟨(cells3_ (blk_below HA.out HBW.out)).1, (cells3_ (blk_below HA.out HBW.out)).2.1, (cells3_ (blk_below HA.out HBW.out)).2.2, pw_cell_below HBW.out hZ.out.2.2, fun h => pw_cell_below HBW.out (hP1.out h).2.2.1⟩ (fun hS_ => ?_)
         clear hK K
         refine norm_ (a' := ?_) ?_ ?_
         rotate_left
         (simp only [Act.put, List.setIfInBounds_toArray, List.set_cons_zero, List.set_cons_succ, i64_w, i32_w]; rfl)
         by_cases hcz : 0 ≤ cv
         ·have hcb : decide (0 ≤ cv) = true := decide_eq_true hcz
          refine rL 52 53 (N := some 64) (v := ?_) (a' := ?_) HT_ HW_ rfl rfl rfl (by kernel_rfl) (fun _ _ _ h => h) hS_ (by rfl) ?_ ?_ ?_; rotate_left 2; (rintro w' ⟨s0, s1, s2, s4, -⟩; go_simp; with_reducible rfl); (simp only [Act.put, List.setIfInBounds_toArray, List.set_cons_zero, List.set_cons_succ, i64_w, i32_w]; rfl)
          refine rL 53 54 (N := some 65) (v := ?_) (a' := ?_) HT_ HW_ rfl rfl rfl (by kernel_rfl) (fun _ _ _ h => h) hS_ (by rfl) ?_ ?_ ?_; rotate_left 2; (rintro w' ⟨s0, s1, s2, s4, -⟩; go_simp; with_reducible rfl); (simp only [Act.put, List.setIfInBounds_toArray, List.set_cons_zero, List.set_cons_succ, i64_w, i32_w]; rfl)
          refine rL 54 55 (N := some 66) (v := ?_) (a' := ?_) HT_ HW_ rfl rfl rfl (by kernel_rfl) (fun _ _ _ h => h) hS_ (by rfl) ?_ ?_ ?_; rotate_left 2; (rintro w' ⟨s0, s1, s2, s4, -⟩; go_simp; with_reducible rfl); (simp only [Act.put, List.setIfInBounds_toArray, List.set_cons_zero, List.set_cons_succ, i64_w, i32_w]; rfl)
          clear hw1 hw2 hw3
          refine rD HT_ (by kernel_rfl) ?_
          go_wp2
          go_ret
          exact ⟨ret_bool_ (goodG_no l kk hlt (by rw [GR.out]; simp [*, zeroB, rowOfB, HK.out, HLN.out])).symm, (FIN.out _ HBW.out).out⟩
         ·have hcb : decide (0 ≤ cv) = false := decide_eq_false hcz
          refine rL 52 53 (N := some 64) (v := ?_) (a' := ?_) HT_ HW_ rfl rfl rfl (by kernel_rfl) (fun _ _ _ h => h) hS_ (by rfl) ?_ ?_ ?_; rotate_left 2; (rintro w' ⟨s0, s1, s2, s4, -⟩; go_simp; with_reducible rfl); (simp only [Act.put, List.setIfInBounds_toArray, List.set_cons_zero, List.set_cons_succ, i64_w, i32_w]; rfl)
          refine rL 53 54 (N := some 65) (v := ?_) (a' := ?_) HT_ HW_ rfl rfl rfl (by kernel_rfl) (fun _ _ _ h => h) hS_ (by rfl) ?_ ?_ ?_; rotate_left 2; (rintro w' ⟨s0, s1, s2, s4, -⟩; go_simp; with_reducible rfl); (simp only [Act.put, List.setIfInBounds_toArray, List.set_cons_zero, List.set_cons_succ, i64_w, i32_w]; rfl)
          refine rL 54 55 (N := some 66) (v := ?_) (a' := ?_) HT_ HW_ rfl rfl rfl (by kernel_rfl) (fun _ _ _ h => h) hS_ (by rfl) ?_ ?_ ?_; rotate_left 2; (rintro w' ⟨s0, s1, s2, s4, -⟩; go_simp; with_reducible rfl); (simp only [Act.put, List.setIfInBounds_toArray, List.set_cons_zero, List.set_cons_succ, i64_w, i32_w]; rfl)
          clear hw1 hw2 hw3
          refine rD HT_ (by kernel_rfl) ?_
          go_wp2
          go_roundg (l.length - (kk + 1))
          case measure => omega
          case rel =>
           refine ⟨kk + 1, by omega, by omega, by go_num, FIN.out _ HBW.out, ⟨fun j hj => ?_⟩⟩
           by_cases e : j = kk
           ·subst e; rw [GR.out]; simp [*, zeroB, rowOfB, HK.out, HLN.out]
           ·exact F.out j (by omega)
        ·have hkz : ¬ (0 : Int) < (kk : Int) := by omega
         refine rL 41 42 (N := some 53) (v := ?_) (a' := ?_) HT_ HW_ rfl rfl rfl (by kernel_rfl) (fun _ _ _ h => h) hS_ (by rfl) ?_ ?_ ?_; rotate_left 2; (rintro w' ⟨s0, s1, s2, s4, -⟩; go_simp; with_reducible rfl); (simp only [Act.put, List.setIfInBounds_toArray, List.set_cons_zero, List.set_cons_succ, i64_w, i32_w]; rfl)
         refine rL 42 43 (N := some 54) (v := ?_) (a' := ?_) HT_ HW_ rfl rfl rfl (by kernel_rfl) (fun _ _ _ h => h) hS_ (by rfl) ?_ ?_ ?_; rotate_left 2; (rintro w' ⟨s0, s1, s2, s4, -⟩; go_simp; with_reducible rfl); (simp only [Act.put, List.setIfInBounds_toArray, List.set_cons_zero, List.set_cons_succ, i64_w, i32_w]; rfl)
         refine rU 43 44 (N := some 55) (a' := ?_) HT_ HW_ rfl rfl rfl (by kernel_rfl) (fun _ _ _ h => h) hS_ (by rfl) ?_ ?_; rotate_left; (simp only [Act.put, List.setIfInBounds_toArray, List.set_cons_zero, List.set_cons_succ, i64_w, i32_w]; rfl)
         refine rU 44 45 (N := some 56) (a' := ?_) HT_ HW_ rfl rfl rfl (by kernel_rfl) (fun _ _ _ h => h) hS_ (by rfl) ?_ ?_; rotate_left; (simp only [Act.put, List.setIfInBounds_toArray, List.set_cons_zero, List.set_cons_succ, i64_w, i32_w]; rfl)
         refine rU 45 46 (N := some 57) (a' := ?_) HT_ HW_ rfl rfl rfl (by kernel_rfl) (fun _ _ _ h => h) hS_ (by rfl) ?_ ?_; rotate_left; (simp only [Act.put, List.setIfInBounds_toArray, List.set_cons_zero, List.set_cons_succ, i64_w, i32_w]; rfl)
         refine rU 46 47 (N := some 58) (a' := ?_) HT_ HW_ rfl rfl rfl (by kernel_rfl) (fun _ _ _ h => h) hS_ (by rfl) ?_ ?_; rotate_left; (simp only [Act.put, List.setIfInBounds_toArray, List.set_cons_zero, List.set_cons_succ, i64_w, i32_w]; rfl)
         refine rU 47 48 (N := some 59) (a' := ?_) HT_ HW_ rfl rfl rfl (by kernel_rfl) (fun _ _ _ h => h) hS_ (by rfl) ?_ ?_; rotate_left; (simp only [Act.put, List.setIfInBounds_toArray, List.set_cons_zero, List.set_cons_succ, i64_w, i32_w]; rfl)
         refine rU 48 49 (N := some 60) (a' := ?_) HT_ HW_ rfl rfl rfl (by kernel_rfl) (fun _ _ _ h => h) hS_ (by rfl) ?_ ?_; rotate_left; (simp only [Act.put, List.setIfInBounds_toArray, List.set_cons_zero, List.set_cons_succ, i64_w, i32_w]; rfl)
         refine rU 49 50 (N := some 61) (a' := ?_) HT_ HW_ rfl rfl rfl (by kernel_rfl) (fun _ _ _ h => h) hS_ (by rfl) ?_ ?_; rotate_left; (simp only [Act.put, List.setIfInBounds_toArray, List.set_cons_zero, List.set_cons_succ, i64_w, i32_w]; rfl)
         refine rU 50 51 (N := some 62) (a' := ?_) HT_ HW_ rfl rfl rfl (by kernel_rfl) (fun _ _ _ h => h) hS_ (by rfl) ?_ ?_; rotate_left; (simp only [Act.put, List.setIfInBounds_toArray, List.set_cons_zero, List.set_cons_succ, i64_w, i32_w]; rfl)
         refine rU 51 52 (N := some 63) (a' := ?_) HT_ HW_ rfl rfl rfl (by kernel_rfl) (fun _ _ _ h => h) hS_ (by rfl) ?_ ?_; rotate_left; (simp only [Act.put, List.setIfInBounds_toArray, List.set_cons_zero, List.set_cons_succ, i64_w, i32_w]; rfl)
         refine rU 52 53 (N := some 64) (a' := ?_) HT_ HW_ rfl rfl rfl (by kernel_rfl) (fun _ _ _ h => h) hS_ (by rfl) ?_ ?_; rotate_left; (simp only [Act.put, List.setIfInBounds_toArray, List.set_cons_zero, List.set_cons_succ, i64_w, i32_w]; rfl)
         refine rL 53 54 (N := some 65) (v := ?_) (a' := ?_) HT_ HW_ rfl rfl rfl (by kernel_rfl) (fun _ _ _ h => h) hS_ (by rfl) ?_ ?_ ?_; rotate_left 2; (rintro w' ⟨s0, s1, s2, s4, -⟩; go_simp; with_reducible rfl); (simp only [Act.put, List.setIfInBounds_toArray, List.set_cons_zero, List.set_cons_succ, i64_w, i32_w]; rfl)
         refine rL 54 55 (N := some 66) (v := ?_) (a' := ?_) HT_ HW_ rfl rfl rfl (by kernel_rfl) (fun _ _ _ h => h) hS_ (by rfl) ?_ ?_ ?_; rotate_left 2; (rintro w' ⟨s0, s1, s2, s4, -⟩; go_simp; with_reducible rfl); (simp only [Act.put, List.setIfInBounds_toArray, List.set_cons_zero, List.set_cons_succ, i64_w, i32_w]; rfl)
         clear hkz
         refine rD HT_ (by kernel_rfl) ?_
         go_wp2
         go_roundg (l.length - (kk + 1))
         case measure => omega
         case rel =>
          refine ⟨kk + 1, by omega, by omega, by go_num, FIN.out _ HBW.out, ⟨fun j hj => ?_⟩⟩
          by_cases e : j = kk
          ·subst e; rw [GR.out]; simp [*, zeroB, rowOfB, HK.out, HLN.out]
          ·exact F.out j (by omega)
    ·have ln1 : ((y.f0.f0.length : Int) != (n0 : Int)) = true := by simp; omega
     refine rL 15 16 (N := some 27) (v := ?_) (a' := ?_) HT_ HW_ rfl rfl rfl (by kernel_rfl) (fun _ _ _ h => h) hS_ (by rfl) ?_ ?_ ?_; rotate_left 2; (rintro w' ⟨s0, s1, s2, s4, -⟩; go_simp; with_reducible rfl); (simp only [Act.put, List.setIfInBounds_toArray, List.set_cons_zero, List.set_cons_succ, i64_w, i32_w]; rfl)
     refine rL 16 17 (N := some 28) (v := ?_) (a' := ?_) HT_ HW_ rfl rfl rfl (by kernel_rfl) (fun _ _ _ h => h) hS_ (by rfl) ?_ ?_ ?_; rotate_left 2; (rintro w' ⟨s0, s1, s2, s4, -⟩; go_simp; with_reducible rfl); (simp only [Act.put, List.setIfInBounds_toArray, List.set_cons_zero, List.set_cons_succ, i64_w, i32_w]; rfl)
     refine rL 17 18 (N := some 29) (v := ?_) (a' := ?_) HT_ HW_ rfl rfl rfl (by kernel_rfl) (fun _ _ _ h => h) hS_ (by rfl) ?_ ?_ ?_; rotate_left 2; (rintro w' ⟨s0, s1, s2, s4, -⟩; go_simp; with_reducible rfl); (simp only [Act.put, List.setIfInBounds_toArray, List.set_cons_zero, List.set_cons_succ, i64_w, i32_w]; rfl)
     refine rU 18 19 (N := some 30) (a' := ?_) HT_ HW_ rfl rfl rfl (by kernel_rfl) (fun _ _ _ h => h) hS_ (by rfl) ?_ ?_; rotate_left; (simp only [Act.put, List.setIfInBounds_toArray, List.set_cons_zero, List.set_cons_succ, i64_w, i32_w]; rfl)
     refine rU 19 20 (N := some 31) (a' := ?_) HT_ HW_ rfl rfl rfl (by kernel_rfl) (fun _ _ _ h => h) hS_ (by rfl) ?_ ?_; rotate_left; (simp only [Act.put, List.setIfInBounds_toArray, List.set_cons_zero, List.set_cons_succ, i64_w, i32_w]; rfl)
     refine rU 20 21 (N := some 32) (a' := ?_) HT_ HW_ rfl rfl rfl (by kernel_rfl) (fun _ _ _ h => h) hS_ (by rfl) ?_ ?_; rotate_left; (simp only [Act.put, List.setIfInBounds_toArray, List.set_cons_zero, List.set_cons_succ, i64_w, i32_w]; rfl)
     refine rU 21 22 (N := some 33) (a' := ?_) HT_ HW_ rfl rfl rfl (by kernel_rfl) (fun _ _ _ h => h) hS_ (by rfl) ?_ ?_; rotate_left; (simp only [Act.put, List.setIfInBounds_toArray, List.set_cons_zero, List.set_cons_succ, i64_w, i32_w]; rfl)
     refine rL 22 23 (N := some 34) (v := ?_) (a' := ?_) HT_ HW_ rfl rfl rfl (by kernel_rfl) (fun _ _ _ h => h) hS_ (by rfl) ?_ ?_ ?_; rotate_left 2; (rintro w' ⟨s0, s1, s2, s4, -⟩; go_simp; with_reducible rfl); (simp only [Act.put, List.setIfInBounds_toArray, List.set_cons_zero, List.set_cons_succ, i64_w, i32_w]; rfl)
     refine rL 23 24 (N := some 35) (v := ?_) (a' := ?_) HT_ HW_ rfl rfl rfl (by kernel_rfl) (fun _ _ _ h => h) hS_ (by rfl) ?_ ?_ ?_; rotate_left 2; (rintro w' ⟨s0, s1, s2, s4, -⟩; go_simp; with_reducible rfl); (simp only [Act.put, List.setIfInBounds_toArray, List.set_cons_zero, List.set_cons_succ, i64_w, i32_w]; rfl)
     refine rU 24 25 (N := some 36) (a' := ?_) HT_ HW_ rfl rfl rfl (by kernel_rfl) (fun _ _ _ h => h) hS_ (by rfl) ?_ ?_; rotate_left; (simp only [Act.put, List.setIfInBounds_toArray, List.set_cons_zero, List.set_cons_succ, i64_w, i32_w]; rfl)
     refine rU 25 26 (N := some 37) (a' := ?_) HT_ HW_ rfl rfl rfl (by kernel_rfl) (fun _ _ _ h => h) hS_ (by rfl) ?_ ?_; rotate_left; (simp only [Act.put, List.setIfInBounds_toArray, List.set_cons_zero, List.set_cons_succ, i64_w, i32_w]; rfl)
     refine rU 26 27 (N := some 38) (a' := ?_) HT_ HW_ rfl rfl rfl (by kernel_rfl) (fun _ _ _ h => h) hS_ (by rfl) ?_ ?_; rotate_left; (simp only [Act.put, List.setIfInBounds_toArray, List.set_cons_zero, List.set_cons_succ, i64_w, i32_w]; rfl)
     refine rU 27 28 (N := some 39) (a' := ?_) HT_ HW_ rfl rfl rfl (by kernel_rfl) (fun _ _ _ h => h) hS_ (by rfl) ?_ ?_; rotate_left; (simp only [Act.put, List.setIfInBounds_toArray, List.set_cons_zero, List.set_cons_succ, i64_w, i32_w]; rfl)
     refine rL 28 29 (N := some 40) (v := ?_) (a' := ?_) HT_ HW_ rfl rfl rfl (by kernel_rfl) (fun _ _ _ h => h) hS_ (by rfl) ?_ ?_ ?_; rotate_left 2; (rintro w' ⟨s0, s1, s2, s4, -⟩; go_simp; with_reducible rfl); (simp only [Act.put, List.setIfInBounds_toArray, List.set_cons_zero, List.set_cons_succ, i64_w, i32_w]; rfl)
     refine rL 29 30 (N := some 41) (v := ?_) (a' := ?_) HT_ HW_ rfl rfl rfl (by kernel_rfl) (fun _ _ _ h => h) hS_ (by rfl) ?_ ?_ ?_; rotate_left 2; (rintro w' ⟨s0, s1, s2, s4, -⟩; go_simp; with_reducible rfl); (simp only [Act.put, List.setIfInBounds_toArray, List.set_cons_zero, List.set_cons_succ, i64_w, i32_w]; rfl)
     refine rU 30 31 (N := some 42) (a' := ?_) HT_ HW_ rfl rfl rfl (by kernel_rfl) (fun _ _ _ h => h) hS_ (by rfl) ?_ ?_; rotate_left; (simp only [Act.put, List.setIfInBounds_toArray, List.set_cons_zero, List.set_cons_succ, i64_w, i32_w]; rfl)
     refine rU 31 32 (N := some 43) (a' := ?_) HT_ HW_ rfl rfl rfl (by kernel_rfl) (fun _ _ _ h => h) hS_ (by rfl) ?_ ?_; rotate_left; (simp only [Act.put, List.setIfInBounds_toArray, List.set_cons_zero, List.set_cons_succ, i64_w, i32_w]; rfl)
     refine rU 32 33 (N := some 44) (a' := ?_) HT_ HW_ rfl rfl rfl (by kernel_rfl) (fun _ _ _ h => h) hS_ (by rfl) ?_ ?_; rotate_left; (simp only [Act.put, List.setIfInBounds_toArray, List.set_cons_zero, List.set_cons_succ, i64_w, i32_w]; rfl)
     refine rU 33 34 (N := some 45) (a' := ?_) HT_ HW_ rfl rfl rfl (by kernel_rfl) (fun _ _ _ h => h) hS_ (by rfl) ?_ ?_; rotate_left; (simp only [Act.put, List.setIfInBounds_toArray, List.set_cons_zero, List.set_cons_succ, i64_w, i32_w]; rfl)
     refine rU 34 35 (N := some 46) (a' := ?_) HT_ HW_ rfl rfl rfl (by kernel_rfl) (fun _ _ _ h => h) hS_ (by rfl) ?_ ?_; rotate_left; (simp only [Act.put, List.setIfInBounds_toArray, List.set_cons_zero, List.set_cons_succ, i64_w, i32_w]; rfl)
     refine rU 35 36 (N := some 47) (a' := ?_) HT_ HW_ rfl rfl rfl (by kernel_rfl) (fun _ _ _ h => h) hS_ (by rfl) ?_ ?_; rotate_left; (simp only [Act.put, List.setIfInBounds_toArray, List.set_cons_zero, List.set_cons_succ, i64_w, i32_w]; rfl)
     refine rU 36 37 (N := some 48) (a' := ?_) HT_ HW_ rfl rfl rfl (by kernel_rfl) (fun _ _ _ h => h) hS_ (by rfl) ?_ ?_; rotate_left; (simp only [Act.put, List.setIfInBounds_toArray, List.set_cons_zero, List.set_cons_succ, i64_w, i32_w]; rfl)
     refine rU 37 38 (N := some 49) (a' := ?_) HT_ HW_ rfl rfl rfl (by kernel_rfl) (fun _ _ _ h => h) hS_ (by rfl) ?_ ?_; rotate_left; (simp only [Act.put, List.setIfInBounds_toArray, List.set_cons_zero, List.set_cons_succ, i64_w, i32_w]; rfl)
     refine rL 38 39 (N := some 50) (v := ?_) (a' := ?_) HT_ HW_ rfl rfl rfl (by kernel_rfl) (fun _ _ _ h => h) hS_ (by rfl) ?_ ?_ ?_; rotate_left 2; (rintro w' ⟨s0, s1, s2, s4, -⟩; go_simp; with_reducible rfl); (simp only [Act.put, List.setIfInBounds_toArray, List.set_cons_zero, List.set_cons_succ, i64_w, i32_w]; rfl)
     refine rL 39 40 (N := some 51) (v := ?_) (a' := ?_) HT_ HW_ rfl rfl rfl (by kernel_rfl) (fun _ _ _ h => h) hS_ (by rfl) ?_ ?_ ?_; rotate_left 2; (rintro w' ⟨s0, s1, s2, s4, -⟩; go_simp; with_reducible rfl); (simp only [Act.put, List.setIfInBounds_toArray, List.set_cons_zero, List.set_cons_succ, i64_w, i32_w]; rfl)
     refine rU 40 41 (N := some 52) (a' := ?_) HT_ HW_ rfl rfl rfl (by kernel_rfl) (fun _ _ _ h => h) hS_ (by rfl) ?_ ?_; rotate_left; (simp only [Act.put, List.setIfInBounds_toArray, List.set_cons_zero, List.set_cons_succ, i64_w, i32_w]; rfl)
     refine rU 41 42 (N := some 53) (a' := ?_) HT_ HW_ rfl rfl rfl (by kernel_rfl) (fun _ _ _ h => h) hS_ (by rfl) ?_ ?_; rotate_left; (simp only [Act.put, List.setIfInBounds_toArray, List.set_cons_zero, List.set_cons_succ, i64_w, i32_w]; rfl)
     refine rU 42 43 (N := some 54) (a' := ?_) HT_ HW_ rfl rfl rfl (by kernel_rfl) (fun _ _ _ h => h) hS_ (by rfl) ?_ ?_; rotate_left; (simp only [Act.put, List.setIfInBounds_toArray, List.set_cons_zero, List.set_cons_succ, i64_w, i32_w]; rfl)
     refine rU 43 44 (N := some 55) (a' := ?_) HT_ HW_ rfl rfl rfl (by kernel_rfl) (fun _ _ _ h => h) hS_ (by rfl) ?_ ?_; rotate_left; (simp only [Act.put, List.setIfInBounds_toArray, List.set_cons_zero, List.set_cons_succ, i64_w, i32_w]; rfl)
     refine rU 44 45 (N := some 56) (a' := ?_) HT_ HW_ rfl rfl rfl (by kernel_rfl) (fun _ _ _ h => h) hS_ (by rfl) ?_ ?_; rotate_left; (simp only [Act.put, List.setIfInBounds_toArray, List.set_cons_zero, List.set_cons_succ, i64_w, i32_w]; rfl)
     refine rU 45 46 (N := some 57) (a' := ?_) HT_ HW_ rfl rfl rfl (by kernel_rfl) (fun _ _ _ h => h) hS_ (by rfl) ?_ ?_; rotate_left; (simp only [Act.put, List.setIfInBounds_toArray, List.set_cons_zero, List.set_cons_succ, i64_w, i32_w]; rfl)
     refine rU 46 47 (N := some 58) (a' := ?_) HT_ HW_ rfl rfl rfl (by kernel_rfl) (fun _ _ _ h => h) hS_ (by rfl) ?_ ?_; rotate_left; (simp only [Act.put, List.setIfInBounds_toArray, List.set_cons_zero, List.set_cons_succ, i64_w, i32_w]; rfl)
     refine rU 47 48 (N := some 59) (a' := ?_) HT_ HW_ rfl rfl rfl (by kernel_rfl) (fun _ _ _ h => h) hS_ (by rfl) ?_ ?_; rotate_left; (simp only [Act.put, List.setIfInBounds_toArray, List.set_cons_zero, List.set_cons_succ, i64_w, i32_w]; rfl)
     refine rU 48 49 (N := some 60) (a' := ?_) HT_ HW_ rfl rfl rfl (by kernel_rfl) (fun _ _ _ h => h) hS_ (by rfl) ?_ ?_; rotate_left; (simp only [Act.put, List.setIfInBounds_toArray, List.set_cons_zero, List.set_cons_succ, i64_w, i32_w]; rfl)
     refine rU 49 50 (N := some 61) (a' := ?_) HT_ HW_ rfl rfl rfl (by kernel_rfl) (fun _ _ _ h => h) hS_ (by rfl) ?_ ?_; rotate_left; (simp only [Act.put, List.setIfInBounds_toArray, List.set_cons_zero, List.set_cons_succ, i64_w, i32_w]; rfl)
     refine rU 50 51 (N := some 62) (a' := ?_) HT_ HW_ rfl rfl rfl (by kernel_rfl) (fun _ _ _ h => h) hS_ (by rfl) ?_ ?_; rotate_left; (simp only [Act.put, List.setIfInBounds_toArray, List.set_cons_zero, List.set_cons_succ, i64_w, i32_w]; rfl)
     refine rU 51 52 (N := some 63) (a' := ?_) HT_ HW_ rfl rfl rfl (by kernel_rfl) (fun _ _ _ h => h) hS_ (by rfl) ?_ ?_; rotate_left; (simp only [Act.put, List.setIfInBounds_toArray, List.set_cons_zero, List.set_cons_succ, i64_w, i32_w]; rfl)
     refine rU 52 53 (N := some 64) (a' := ?_) HT_ HW_ rfl rfl rfl (by kernel_rfl) (fun _ _ _ h => h) hS_ (by rfl) ?_ ?_; rotate_left; (simp only [Act.put, List.setIfInBounds_toArray, List.set_cons_zero, List.set_cons_succ, i64_w, i32_w]; rfl)
     refine rU 53 54 (N := some 65) (a' := ?_) HT_ HW_ rfl rfl rfl (by kernel_rfl) (fun _ _ _ h => h) hS_ (by rfl) ?_ ?_; rotate_left; (simp only [Act.put, List.setIfInBounds_toArray, List.set_cons_zero, List.set_cons_succ, i64_w, i32_w]; rfl)
     refine rL 54 55 (N := some 66) (v := ?_) (a' := ?_) HT_ HW_ rfl rfl rfl (by kernel_rfl) (fun _ _ _ h => h) hS_ (by rfl) ?_ ?_ ?_; rotate_left 2; (rintro w' ⟨s0, s1, s2, s4, -⟩; go_simp; with_reducible rfl); (simp only [Act.put, List.setIfInBounds_toArray, List.set_cons_zero, List.set_cons_succ, i64_w, i32_w]; rfl)
     have hln' : ¬ ((y.f0.f0.length : Int) = (n0 : Int)) := by omega
     refine rD HT_ (by kernel_rfl) ?_
     go_wp2
     go_ret
     exact ⟨ret_bool_ (goodG_no l kk hlt (by rw [GR.out]; simp [*, zeroB, rowOfB, HK.out])).symm, (FIN.out _ HBW.out).out⟩
  ·have : kk = l.length := by omega
   subst this
   go_wp2
   go_ret
   exact ⟨ret_bool_ (by rw [goodG_yes l F.out]; exact decide_eq_decide.2 (by omega)), BW.out⟩
def spec_GoodGroups.f (l : List S30) : Option Bool := some (goodGroupsB l)
theorem spec_GoodGroups.calls (A0 : Option Addr) (c0 : Nat) (l0 : List S30) (r : Bool) (w : World) (hr0 : Kd.C k30 w A0 l0.length l0) (hc0 : l0.length ≤ c0) (h : spec_GoodGroups.f l0 = some r) :
  Calls Try.prog 39 #[.slice A0 l0.length c0] w fun e w' => e = .returned (.bool r) ∧ Below w.heap.size w w' := by
 obtain rfl := Option.some.inj h
 exact specGoodGroups_calls A0 c0 l0 w hr0 hc0
end Go.Proofs.Ytbnmkikifjidjaa.Q
end
section
/- Contracts of a function, printed for this claim by a program of ours over the kit's print. -/
namespace Go.Proofs.Ytbnmkikifjidjaa.Q
open Go.RowKit Go.Proofs.YtbnmkikifjidjaaW.PrintWords Go.Proofs.YtbnmkikifjidjaaW.PrintLast Go.Proofs.YtbnmkikifjidjaaW.PrintMore
attribute [local go_sem] max2_int min2_int max_two min_two max_three min_three max_four min_four   -- for this text's walks alone
set_option linter.unusedVariables false
set_option linter.unusedSimpArgs false

/-! ### spec_GroupFor: function 8 -/
def spec_GroupFor.l0 : Nat → List (S30) → Int → Int → List Int → Option (List Int × Int × Int × Bool)
 | 0, _, _, _, _ => none
 | k + 1, x12, x13, x14, x102000 => if x14 < x13 then (if 0 ≤ x14 then (if x14 < (x12.length : Int) then ((spec_l1Compare.f k ((rd_T30 x12 x14).f0.f0) x102000).bind fun t106 => (if t106 = 0 then ((spec_l2OwnRow.f ((rd_T30 x12 x14).f0.f0)).bind fun t107 => (some (t107, (rd_T30 x12 x14).f1, (rd_T30 x12 x14).f2, true))) else (spec_GroupFor.l0 k x12 x13 (wrap64 (x14 + 1)) x102000))) else (none)) else (none)) else (some (([] : List Int), 0, 0, false))
def spec_GroupFor.f (k : Nat) (l0 : List (S30)) (l1_0 : List Int) : Option (List Int × Int × Int × Bool) := (spec_GoodGroups.f l0).bind fun t103 => (if t103 = true then (spec_GroupFor.l0 k l0 (l0.length : Int) 0 l1_0) else (some (([] : List Int), 0, 0, false)))
def spec_GroupFor.T7 : Bool × List (List Nat × List Nat) := (true, [([], []), ([0], [0]), ([1], [1]), ([], []), ([3], [3]), ([], []), ([5], [5]), ([2, 4, 6], [2, 4, 6]), ([7, 2, 0, 1, 2, 3, 4, 5, 6, 7], [7]), ([8, 0, 1, 2, 3, 4, 5, 6, 7, 8], [])])
def spec_GroupFor.B7 : List Nat := [0, 1, 3, 0, 8, 0, 32, 127, 255, 511]
theorem spec_GroupFor.tab7 : rtab .any (opsOf Try.f8 7) = spec_GroupFor.T7 := by kernel_rfl
theorem spec_GroupFor.bits7 : waitsOk spec_GroupFor.T7.2 spec_GroupFor.B7 = true := by kernel_rfl
set_option maxHeartbeats 8000000 in
set_option maxRecDepth 100000 in
theorem spec_GroupFor.calls (k : Nat) (A0 : Option Addr) (c0 : Nat) (l0 : List (S30)) (A1_0 : Option Addr) (c1_0 : Nat) (l1_0 : List Int) (r1 : List Int) (r2 : Int) (r3 : Int) (r4 : Bool) (w : World) (hr0 : Kd.C k30 w A0 l0.length l0) (hc0 : l0.length ≤ c0) (hr1_0 : Kd.C (Kd.int .i64) w A1_0 l1_0.length l1_0) (hc1_0 : l1_0.length ≤ c1_0) (h : spec_GroupFor.f k l0 l1_0 = some (r1, r2, r3, r4)) :
  Calls Try.prog 8 #[.slice A0 l0.length c0, .agg #[.slice A1_0 l1_0.length c1_0]] w fun e w' => ∃ v0_ : Value, e = .returned (.tuple #[.agg #[v0_, .int .i64 r2, .int .i64 r3], .bool r4]) ∧ Kd.R (Kd.int .i64) 3 w' w.heap.size (fun _ => True) v0_ r1 ∧ Below w.heap.size w w' := by
 have hu28 := Try.underlying28
 have hu30 := Try.underlying30
 have HR0 := Aside0.mk hr0
 have HC0 := Aside0.mk hc0
 clear hr0 hc0
 have HR1_0 := Aside0.mk hr1_0
 have HC1_0 := Aside0.mk hc1_0
 clear hr1_0 hc1_0
 have HB := Aside0.mk (Below.refl w.heap.size w)
 have H : ((spec_GoodGroups.f l0).bind fun t103 => (if t103 = true then (spec_GroupFor.l0 k l0 (l0.length : Int) 0 l1_0) else (some (([] : List Int), 0, 0, false)))) = some (r1, r2, r3, r4) := h
 clear h
 replace H := Option.bind_eq_some_iff.mp H
 obtain ⟨t103, A30, H⟩ := H
 replace H : (if t103 = true then (spec_GroupFor.l0 k l0 (l0.length : Int) 0 l1_0) else (some (([] : List Int), 0, 0, false))) = some (r1, r2, r3, r4) := H
 have A3 := Aside0.mk A30
 clear A30
 by_cases c4 : t103 = true
 ·subst c4
  have H1 : (spec_GroupFor.l0 k l0 (l0.length : Int) 0 l1_0) = some (r1, r2, r3, r4) := by rw [if_pos rfl] at H; exact H
  clear H
  have H := H1
  clear H1
  have H' := Aside0.mk H
  clear H
  go_enter Try.func8, Try.ntmps8
  go_wp2_with (first | ((with_reducible refine gate_dst (N := 3) rfl ?_); refine box_event ?hg (N := 3) ?hd (cs := #[.slice A1_0 l1_0.length c1_0]) (t := 28) ?hr ?_; (case hd => rfl); (case hg => rfl); (case hr => first | (go_simp; done) | (go_simp; rfl)); intro gb101 hg w5 hbox hb; have n0_ := Aside0.mk (below_step (by repeat (first | (with_reducible first | exact HB.out | apply below_alloc | apply pw_below_drewN | apply below_drew1) | exact HB.out)) hb); have n1_ := Aside0.mk (hbox); have n2_ := Aside0.mk ((by rw [hg]; exact (below_size (by repeat (first | (with_reducible first | exact HB.out | apply below_alloc | apply pw_below_drewN | apply below_drew1) | exact HB.out))) : w.heap.size ≤ gb101)); have n3_ := Aside0.mk ((by rw [hg]; exact (below_size (by repeat (first | (with_reducible first | exact HB.out | apply below_alloc | apply pw_below_drewN | apply below_drew1) | exact HB.out))) : w.heap.size ≤ gb101)); clear HB; have HB := n0_; have BK101 := n1_; have GW101 := n2_; have GE101 := n3_; clear n0_ n1_ n2_ n3_; clear hb hbox hg) | ((with_reducible refine gate_dst (N := 4) rfl ?_); refine box_event ?hg (N := 4) ?hd (cs := #[.slice none 0 0, .int .i64 0, .int .i64 0]) (t := 30) ?hr ?_; (case hd => rfl); (case hg => rfl); (case hr => first | (go_simp; done) | (go_simp; rfl)); intro gb102 hg w6 hbox hb; have n0_ := Aside0.mk (blk_below (g := gb101) (o := .cells #[.slice A1_0 l1_0.length c1_0] 28 (0, 0)) (by (with_reducible repeat (first | refine blk_drewN ?_ _ | refine blk_drew ?_ | refine blk_alloc ?_ _)); exact BK101.out) hb); have n1_ := Aside0.mk (below_step (by repeat (first | (with_reducible first | exact HB.out | apply below_alloc | apply pw_below_drewN | apply below_drew1 | refine below_set ?_ GE101.out) | exact HB.out)) hb); have n2_ := Aside0.mk (hbox); have n3_ := Aside0.mk ((by rw [hg]; exact (below_size (by repeat (first | (with_reducible first | exact HB.out | apply below_alloc | apply pw_below_drewN | apply below_drew1 | refine below_set ?_ GE101.out) | exact HB.out))) : w.heap.size ≤ gb102)); have n4_ := Aside0.mk ((by rw [hg]; exact (below_size (by repeat (first | (with_reducible first | exact HB.out | apply below_alloc | apply pw_below_drewN | apply below_drew1 | refine below_set ?_ GE101.out) | exact HB.out))) : w.heap.size ≤ gb102)); have n5_ := Aside0.mk ((by rw [hg]; exact Nat.ne_of_lt (blk_lt (g := gb101) (o := .cells #[.slice A1_0 l1_0.length c1_0] 28 (0, 0)) (by (with_reducible repeat (first | refine blk_drewN ?_ _ | refine blk_drew ?_ | refine blk_alloc ?_ _)); exact BK101.out)) : gb101 ≠ gb102)); have n6_ := Aside0.mk ((by rw [hg]; exact Nat.ne_of_gt (blk_lt (g := gb101) (o := .cells #[.slice A1_0 l1_0.length c1_0] 28 (0, 0)) (by (with_reducible repeat (first | refine blk_drewN ?_ _ | refine blk_drew ?_ | refine blk_alloc ?_ _)); exact BK101.out)) : gb102 ≠ gb101)); clear BK101; clear HB; have BK101 := n0_; have HB := n1_; have BK102 := n2_; have GW102 := n3_; have GE102 := n4_; have NB101_102 := n5_; have NB102_101 := n6_; clear n0_ n1_ n2_ n3_ n4_ n5_ n6_; clear hb hbox hg) | ((with_reducible refine gate_callee (f := 39) rfl ?_); refine goesL_ (some 9) rfl rfl Try.func39 (by kernel_rfl) rfl #[.slice A0 l0.length c0] rfl (by (try simp only [List.map_toArray, List.map_cons, List.map_nil]); first | done | rfl | (simp only [List.length_drop, List.length_take]; rfl)) ?_; (with_reducible refine (spec_GoodGroups.calls _ _ l0 true _ ?side1 ?side2 A3.out).mono ?_); (case side1 => repeat (first | exact (Kd.C_below HR0.out HB.out) | (with_reducible refine Kd.C_alloc ?_ _) | (with_reducible refine Kd.C_drewN ?_ _) | (with_reducible refine Kd.C_drew ?_))); (case side2 => exact HC0.out); rintro e w7 ⟨rfl, hb⟩; refine ⟨_, rfl, ?_⟩; have n0_ := Aside0.mk (blk_below (g := gb101) (o := .cells #[.slice A1_0 l1_0.length c1_0] 28 (0, 0)) (by (with_reducible repeat (first | refine blk_drewN ?_ _ | refine blk_drew ?_ | refine blk_alloc ?_ _)); exact BK101.out) hb); have n1_ := Aside0.mk (blk_below (g := gb102) (o := .cells #[.slice none 0 0, .int .i64 0, .int .i64 0] 30 (0, 0)) (by (with_reducible repeat (first | refine blk_drewN ?_ _ | refine blk_drew ?_ | refine blk_alloc ?_ _)); exact BK102.out) hb); have n2_ := Aside0.mk (below_step (by repeat (first | (with_reducible first | exact HB.out | apply below_alloc | apply pw_below_drewN | apply below_drew1 | refine below_set ?_ GE101.out | refine below_set ?_ GE102.out) | exact HB.out)) hb); clear BK101; clear BK102; clear HB; have BK101 := n0_; have BK102 := n1_; have HB := n2_; clear n0_ n1_ n2_; (try clear hb); (try clear hb2); (try clear hk); (try clear hi)))
  go_loopg [14] k (fun kq v14 w' => ∃ (x14_1 : Int) (x103001_1 : Int) (x103002_1 : Int), v14 = .int .i64 x14_1 ∧ Aside0 (spec_GroupFor.l0 kq l0 (l0.length : Int) x14_1 l1_0 = some (r1, r2, r3, r4)) ∧ Aside0 (kq ≤ k) ∧ Aside0 (w'.heap[gb101]? = some (.cells #[(.slice A1_0 l1_0.length c1_0)] 28 (0, 0))) ∧ Aside0 (w'.heap[gb102]? = some (.cells #[(.slice none 0 0), .int .i64 x103001_1, .int .i64 x103002_1] 30 (0, 0))) ∧ Aside0 (Below w.heap.size w w'))
  case atStart => exact ⟨(0), (0), (0), (by first | rfl | (simp; done) | (simp [*]; done)), H', ⟨Nat.le_refl _⟩, ⟨by (with_reducible repeat (first | refine blk_drewN ?_ _ | refine blk_drew ?_ | refine blk_alloc ?_ _)); exact BK101.out⟩, ⟨by (with_reducible repeat (first | refine blk_drewN ?_ _ | refine blk_drew ?_ | refine blk_alloc ?_ _)); exact BK102.out⟩, ⟨by repeat (first | (with_reducible first | exact HB.out | apply below_alloc | apply pw_below_drewN | apply below_drew1 | refine below_set ?_ GE101.out | refine below_set ?_ GE102.out) | exact HB.out)⟩⟩
  case round =>
   clear H'
   try clear c1
   try clear p2
   try clear c3
   try clear c4
   obtain ⟨x14_1, x103001_1, x103002_1, rfl, HA, HK1, BK101, BK102, HB⟩ := hrel
   cases gk with
   | zero => exact absurd HA.out (by simp [spec_GroupFor.l0])
   | succ k1 =>
    have H := HA.out
    clear HA
    simp only [spec_GroupFor.l0] at H
    by_cases c8 : x14_1 < (l0.length : Int)
    ·rw [if_pos c8] at H
     have c8b0 : decide (x14_1 < (l0.length : Int)) = true := decide_eq_true c8
     clear c8
     by_cases c9 : 0 ≤ x14_1
     ·rw [if_pos c9] at H
      have c9b0 : decide (0 ≤ x14_1) = true := decide_eq_true c9
      clear c9
      by_cases c10 : x14_1 < (l0.length : Int)
      ·rw [if_pos c10] at H
       have c10b0 : decide (x14_1 < (l0.length : Int)) = true := decide_eq_true c10
       clear c10
       replace H := Option.bind_eq_some_iff.mp H
       obtain ⟨t106, A110, H⟩ := H
       replace H : (if t106 = 0 then ((spec_l2OwnRow.f ((rd_T30 l0 x14_1).f0.f0)).bind fun t107 => (some (t107, (rd_T30 l0 x14_1).f1, (rd_T30 l0 x14_1).f2, true))) else (spec_GroupFor.l0 k1 l0 (l0.length : Int) (wrap64 (x14_1 + 1)) l1_0)) = some (r1, r2, r3, r4) := H
       have A11 := Aside0.mk A110
       clear A110
       by_cases c12 : t106 = 0
       ·rw [if_pos c12] at H
        have c12b0 : (t106 == 0) = true := beq_iff_eq.mpr c12
        have c12b1 : (t106 != 0) = false := bne_eq_false_iff_eq.mpr c12
        clear c12
        replace H := Option.bind_eq_some_iff.mp H
        obtain ⟨t107, A130, H⟩ := H
        replace H : (some (t107, (rd_T30 l0 x14_1).f1, (rd_T30 l0 x14_1).f2, true)) = some (r1, r2, r3, r4) := H
        have A13 := Aside0.mk A130
        clear A130
        simp only [Option.some.injEq, Prod.mk.injEq] at H
        obtain ⟨rfl, rfl, rfl, rfl⟩ := H
        have p104 : 0 ≤ (x14_1 : Int) := of_decide_eq_true (by first | (with_reducible assumption) | assumption)
        have q104 : x14_1 < (l0.length : Int) := of_decide_eq_true (by first | (with_reducible assumption) | assumption)
        obtain ⟨ad104, A104_0, c104_0, e104, hx104_0, hx104_1, hx104_2, hl104_0, hi104_0⟩ := at_T30 HR0.out x14_1 p104 q104
        cases e104
        replace hx104_0 := (HB.out.cell (World.block_lt_of_cell? w _ hx104_0)).trans hx104_0
        replace hx104_1 := (HB.out.cell (World.block_lt_of_cell? w _ hx104_1)).trans hx104_1
        replace hx104_2 := (HB.out.cell (World.block_lt_of_cell? w _ hx104_2)).trans hx104_2
        have HR104_0 := Aside0.mk hi104_0
        have HC104_0 := Aside0.mk hl104_0
        clear hi104_0 hl104_0
        replace p104 := eq_true p104
        replace q104 := eq_true q104
        try go_wp2_with (first | ((with_reducible refine gate_dst (N := 7) rfl ?_); refine box_event ?hg (N := 7) ?hd (cs := #[.slice none 0 0, .int .i64 0, .int .i64 0]) (t := 30) ?hr ?_; (case hd => rfl); (case hg => rfl); (case hr => first | (go_simp; done) | (go_simp; rfl)); intro gb105 hg w14 hbox hb; have n0_ := Aside0.mk (blk_below (g := gb101) (o := .cells #[.slice A1_0 l1_0.length c1_0] 28 (0, 0)) (by (with_reducible repeat (first | refine blk_drewN ?_ _ | refine blk_drew ?_ | refine blk_alloc ?_ _)); exact BK101.out) hb); have n1_ := Aside0.mk (blk_below (g := gb102) (o := .cells #[.slice none 0 0, .int .i64 x103001_1, .int .i64 x103002_1] 30 (0, 0)) (by (with_reducible repeat (first | refine blk_drewN ?_ _ | refine blk_drew ?_ | refine blk_alloc ?_ _)); exact BK102.out) hb); have n2_ := Aside0.mk (below_step (by repeat (first | (with_reducible first | exact HB.out | apply below_alloc | apply pw_below_drewN | apply below_drew1 | refine below_set ?_ GE101.out | refine below_set ?_ GE102.out) | exact HB.out)) hb); have n3_ := Aside0.mk (hbox); have n4_ := Aside0.mk ((by rw [hg]; exact (below_size (by repeat (first | (with_reducible first | exact HB.out | apply below_alloc | apply pw_below_drewN | apply below_drew1 | refine below_set ?_ GE101.out | refine below_set ?_ GE102.out) | exact HB.out))) : w.heap.size ≤ gb105)); have n5_ := Aside0.mk ((by rw [hg]; exact (below_size (by repeat (first | (with_reducible first | exact HB.out | apply below_alloc | apply pw_below_drewN | apply below_drew1 | refine below_set ?_ GE101.out | refine below_set ?_ GE102.out) | exact HB.out))) : w.heap.size ≤ gb105)); have n6_ := Aside0.mk ((by rw [hg]; exact Nat.ne_of_lt (blk_lt (g := gb101) (o := .cells #[.slice A1_0 l1_0.length c1_0] 28 (0, 0)) (by (with_reducible repeat (first | refine blk_drewN ?_ _ | refine blk_drew ?_ | refine blk_alloc ?_ _)); exact BK101.out)) : gb101 ≠ gb105)); have n7_ := Aside0.mk ((by rw [hg]; exact Nat.ne_of_gt (blk_lt (g := gb101) (o := .cells #[.slice A1_0 l1_0.length c1_0] 28 (0, 0)) (by (with_reducible repeat (first | refine blk_drewN ?_ _ | refine blk_drew ?_ | refine blk_alloc ?_ _)); exact BK101.out)) : gb105 ≠ gb101)); have n8_ := Aside0.mk ((by rw [hg]; exact Nat.ne_of_lt (blk_lt (g := gb102) (o := .cells #[.slice none 0 0, .int .i64 x103001_1, .int .i64 x103002_1] 30 (0, 0)) (by (with_reducible repeat (first | refine blk_drewN ?_ _ | refine blk_drew ?_ | refine blk_alloc ?_ _)); exact BK102.out)) : gb102 ≠ gb105)); have n9_ := Aside0.mk ((by rw [hg]; exact Nat.ne_of_gt (blk_lt (g := gb102) (o := .cells #[.slice none 0 0, .int .i64 x103001_1, .int .i64 x103002_1] 30 (0, 0)) (by (with_reducible repeat (first | refine blk_drewN ?_ _ | refine blk_drew ?_ | refine blk_alloc ?_ _)); exact BK102.out)) : gb105 ≠ gb102)); clear BK101; clear BK102; clear HB; have BK101 := n0_; have BK102 := n1_; have HB := n2_; have BK105 := n3_; have GW105 := n4_; have GE105 := n5_; have NB101_105 := n6_; have NB105_101 := n7_; have NB102_105 := n8_; have NB105_102 := n9_; clear n0_ n1_ n2_ n3_ n4_ n5_ n6_ n7_ n8_ n9_; clear hb hbox hg; have hnb15 := NB105_101.out; have hnc15 := NB101_105.out; have hnb16 := NB105_102.out; have hnc16 := NB102_105.out; have hcz17_0 : w14.cell? ⟨gb105, 0, none⟩ = some (.slice none 0 0) := (blk_cell BK105.out 0).trans rfl; have hcz17_1 : w14.cell? ⟨gb105, 1, none⟩ = some (.int .i64 0) := (blk_cell BK105.out 1).trans rfl; have hcz17_2 : w14.cell? ⟨gb105, 2, none⟩ = some (.int .i64 0) := (blk_cell BK105.out 2).trans rfl; have hfz17_0 := blk_frozen BK105.out 0; have hfz17_1 := blk_frozen BK105.out 1; have hfz17_2 := blk_frozen BK105.out 2; have hnb18 := NB101_102.out; have hnc18 := NB102_101.out; have hcz19_0 : w14.cell? ⟨gb101, 0, none⟩ = some (.slice A1_0 l1_0.length c1_0) := (blk_cell BK101.out 0).trans rfl; have hfz19_0 := blk_frozen BK101.out 0) | ((with_reducible refine gate_callee (f := 40) rfl ?_); refine goesL_ (some 21) rfl rfl Try.func40 (by kernel_rfl) rfl #[.agg #[.slice A104_0 ((rd_T30 l0 x14_1).f0.f0).length c104_0], .agg #[.slice A1_0 l1_0.length c1_0]] rfl (by (try simp only [List.map_toArray, List.map_cons, List.map_nil]); first | done | rfl | (simp only [List.length_drop, List.length_take]; rfl)) ?_; (with_reducible refine (spec_l1Compare.calls k1 _ _ ((rd_T30 l0 x14_1).f0.f0) _ _ l1_0 t106 _ ?side1 ?side2 ?side3 ?side4 A11.out).mono ?_); (case side1 => exact Kd.C_below HR104_0.out (by repeat (first | (with_reducible first | exact HB.out | apply below_alloc | apply pw_below_drewN | apply below_drew1 | refine below_set ?_ GE101.out | refine below_set ?_ GE102.out | refine below_set ?_ GE105.out) | exact HB.out))); (case side2 => exact HC104_0.out); (case side3 => exact Kd.C_below HR1_0.out (by repeat (first | (with_reducible first | exact HB.out | apply below_alloc | apply pw_below_drewN | apply below_drew1 | refine below_set ?_ GE101.out | refine below_set ?_ GE102.out | refine below_set ?_ GE105.out) | exact HB.out))); (case side4 => exact HC1_0.out); rintro e w20 ⟨rfl, hb⟩; refine ⟨_, rfl, ?_⟩; have n0_ := Aside0.mk (blk_below (g := gb101) (o := .cells #[.slice A1_0 l1_0.length c1_0] 28 (0, 0)) (by (with_reducible repeat (first | refine blk_drewN ?_ _ | refine blk_drew ?_ | refine blk_alloc ?_ _)); refine blk_far ?_ NB101_105.out _; (with_reducible repeat (first | refine blk_drewN ?_ _ | refine blk_drew ?_ | refine blk_alloc ?_ _)); refine blk_far ?_ NB101_105.out _; (with_reducible repeat (first | refine blk_drewN ?_ _ | refine blk_drew ?_ | refine blk_alloc ?_ _)); refine blk_far ?_ NB101_105.out _; (with_reducible repeat (first | refine blk_drewN ?_ _ | refine blk_drew ?_ | refine blk_alloc ?_ _)); exact BK101.out) hb); have n1_ := Aside0.mk (blk_below (g := gb102) (o := .cells #[.slice none 0 0, .int .i64 x103001_1, .int .i64 x103002_1] 30 (0, 0)) (by (with_reducible repeat (first | refine blk_drewN ?_ _ | refine blk_drew ?_ | refine blk_alloc ?_ _)); refine blk_far ?_ NB102_105.out _; (with_reducible repeat (first | refine blk_drewN ?_ _ | refine blk_drew ?_ | refine blk_alloc ?_ _)); refine blk_far ?_ NB102_105.out _; (with_reducible repeat (first | refine blk_drewN ?_ _ | refine blk_drew ?_ | refine blk_alloc ?_ _)); refine blk_far ?_ NB102_105.out _; (with_reducible repeat (first | refine blk_drewN ?_ _ | refine blk_drew ?_ | refine blk_alloc ?_ _)); exact BK102.out) hb); have n2_ := Aside0.mk (blk_below (g := gb105) (o := .cells #[.slice A104_0 ((rd_T30 l0 x14_1).f0.f0).length c104_0, .int .i64 ((rd_T30 l0 x14_1).f1), .int .i64 ((rd_T30 l0 x14_1).f2)] 30 (0, 0)) (by (with_reducible repeat (first | refine blk_drewN ?_ _ | refine blk_drew ?_ | refine blk_alloc ?_ _)); refine blk_put (cs := #[.slice A104_0 ((rd_T30 l0 x14_1).f0.f0).length c104_0, .int .i64 ((rd_T30 l0 x14_1).f1), .int .i64 0]) ?_ 2 _ rfl; (with_reducible repeat (first | refine blk_drewN ?_ _ | refine blk_drew ?_ | refine blk_alloc ?_ _)); refine blk_put (cs := #[.slice A104_0 ((rd_T30 l0 x14_1).f0.f0).length c104_0, .int .i64 0, .int .i64 0]) ?_ 1 _ rfl; (with_reducible repeat (first | refine blk_drewN ?_ _ | refine blk_drew ?_ | refine blk_alloc ?_ _)); refine blk_put (cs := #[.slice none 0 0, .int .i64 0, .int .i64 0]) ?_ 0 _ rfl; (with_reducible repeat (first | refine blk_drewN ?_ _ | refine blk_drew ?_ | refine blk_alloc ?_ _)); exact BK105.out) hb); have n3_ := Aside0.mk (below_step (by repeat (first | (with_reducible first | exact HB.out | apply below_alloc | apply pw_below_drewN | apply below_drew1 | refine below_set ?_ GE101.out | refine below_set ?_ GE102.out | refine below_set ?_ GE105.out) | exact HB.out)) hb); clear BK101; clear BK102; clear BK105; clear HB; have BK101 := n0_; have BK102 := n1_; have BK105 := n2_; have HB := n3_; clear n0_ n1_ n2_ n3_; (try clear hb); (try clear hb2); (try clear hk); (try clear hi)))
        have n0_ := Aside0.mk (blk_drew BK101.out)
        have n1_ := Aside0.mk (blk_drew BK102.out)
        have n2_ := Aside0.mk (blk_drew BK105.out)
        have n3_ := Aside0.mk (below_drew1 HB.out)
        clear BK101
        clear BK102
        clear BK105
        clear HB
        have BK101 := n0_
        have BK102 := n1_
        have BK105 := n2_
        have HB := n3_
        clear n0_ n1_ n2_ n3_
        refine start_ (n := 10) (S := fun w' => w'.cell? ⟨gb105, 0, none⟩ = some (.slice A104_0 ((rd_T30 l0 x14_1).f0.f0).length c104_0) ∧ w'.cell? ⟨gb105, 1, none⟩ = some (.int .i64 ((rd_T30 l0 x14_1).f1)) ∧ w'.cell? ⟨gb105, 2, none⟩ = some (.int .i64 ((rd_T30 l0 x14_1).f2))) (ds := []) #[false, false, false, false, false, false, false, false, false, false] (by kernel_rfl) rfl rfl ⟨(blk_cell BK105.out 0).trans rfl, (blk_cell BK105.out 1).trans rfl, (blk_cell BK105.out 2).trans rfl⟩ (fun hHeld => ?_); refine with_tabW spec_GroupFor.tab7 spec_GroupFor.bits7 (fun HT_ HW_ => ?_)
        generalize w20.drew = w21 at BK101 BK102 BK105 HB hHeld ⊢
        refine pure_ (i := 0) (N := some 23) (v := ?_) (a' := ?_) #[true, false, false, false, false, false, false, false, false, false] rfl rfl (any_of HT_.out (by kernel_rfl)) (fun _ _ _ h => h) (Or.inl ⟨by rfl, ?_⟩) ?_ ?_
        rotate_left
        ·intro w'
         go_simp
         with_reducible rfl
        rotate_left
        ·simp only [Act.put, List.setIfInBounds_toArray, List.set_cons_zero, List.set_cons_succ, i64_w, i32_w]
         rfl
        refine pure_ (i := 3) (N := some 26) (v := ?_) (a' := ?_) #[true, false, false, true, false, false, false, false, false, false] rfl rfl (any_of HT_.out (by kernel_rfl)) (fun _ _ _ h => h) (Or.inl ⟨by rfl, ?_⟩) ?_ ?_
        rotate_left
        ·intro w'
         go_simp
         with_reducible rfl
        rotate_left
        ·simp only [Act.put, List.setIfInBounds_toArray, List.set_cons_zero, List.set_cons_succ, i64_w, i32_w]
         rfl
        refine pure_ (i := 5) (N := some 28) (v := ?_) (a' := ?_) #[true, false, false, true, false, true, false, false, false, false] rfl rfl (any_of HT_.out (by kernel_rfl)) (fun _ _ _ h => h) (Or.inl ⟨by rfl, ?_⟩) ?_ ?_
        rotate_left
        ·intro w'
         go_simp
         with_reducible rfl
        rotate_left
        ·simp only [Act.put, List.setIfInBounds_toArray, List.set_cons_zero, List.set_cons_succ, i64_w, i32_w]
         rfl
        refine take_ (i := 1) (N := some 24) (v := ?_) (a' := ?_) #[true, true, false, true, false, true, false, false, false, false] rfl rfl (take_ofW HT_.out HW_.out (by kernel_rfl)) (fun _ _ _ h => h) (Or.inl ⟨by rfl, ?_⟩) hHeld ?_ ?_
        rotate_left
        ·rintro w' ⟨s0, s1, s2⟩
         go_simp
         with_reducible rfl
        rotate_left
        ·simp only [Act.put, List.setIfInBounds_toArray, List.set_cons_zero, List.set_cons_succ, i64_w, i32_w]
         rfl
        refine take_ (i := 4) (N := some 27) (v := ?_) (a' := ?_) #[true, true, false, true, true, true, false, false, false, false] rfl rfl (take_ofW HT_.out HW_.out (by kernel_rfl)) (fun _ _ _ h => h) (Or.inl ⟨by rfl, ?_⟩) hHeld ?_ ?_
        rotate_left
        ·rintro w' ⟨s0, s1, s2⟩
         go_simp
         with_reducible rfl
        rotate_left
        ·simp only [Act.put, List.setIfInBounds_toArray, List.set_cons_zero, List.set_cons_succ, i64_w, i32_w]
         rfl
        refine take_ (i := 6) (N := some 29) (v := ?_) (a' := ?_) #[true, true, false, true, true, true, true, false, false, false] rfl rfl (take_ofW HT_.out HW_.out (by kernel_rfl)) (fun _ _ _ h => h) (Or.inl ⟨by rfl, ?_⟩) hHeld ?_ ?_
        rotate_left
        ·rintro w' ⟨s0, s1, s2⟩
         go_simp
         with_reducible rfl
        rotate_left
        ·simp only [Act.put, List.setIfInBounds_toArray, List.set_cons_zero, List.set_cons_succ, i64_w, i32_w]
         rfl
        refine one_ (i := 2) (N := some 25) #[true, true, true, true, true, true, true, false, false, false] rfl rfl (one_of HT_.out (by kernel_rfl)) (by decide) (fun K hK => ?_)
        refine goes_ Try.func41 (by kernel_rfl) rfl #[.agg #[.slice A104_0 ((rd_T30 l0 x14_1).f0.f0).length c104_0]] (by rfl) rfl rfl (by (try simp only [List.map_toArray, List.map_cons, List.map_nil]); first | done | rfl | (simp only [List.length_drop, List.length_take]; rfl)) ?_
        with_reducible refine (spec_l2OwnRow.calls _ _ ((rd_T30 l0 x14_1).f0.f0) t107 _ ?side1 ?side2 A13.out).mono ?_
        (case side1 => repeat (first | exact (Kd.C_below HR104_0.out HB.out) | (with_reducible refine Kd.C_alloc ?_ _) | (with_reducible refine Kd.C_drewN ?_ _) | (with_reducible refine Kd.C_drew ?_)))
        (case side2 => exact HC104_0.out)
        rintro e w22 ⟨v108, rfl, ho0, hb⟩
        refine ⟨_, rfl, ?_⟩
        have n0_ := Aside0.mk (Kd.R_lower ho0 (below_size (by repeat (first | (with_reducible first | exact HB.out | apply below_alloc | apply pw_below_drewN | apply below_drew1 | refine below_set ?_ GE101.out | refine below_set ?_ GE102.out | refine below_set ?_ GE105.out) | exact HB.out))))
        have n1_ := Aside0.mk (blk_below (g := gb101) (o := .cells #[.slice A1_0 l1_0.length c1_0] 28 (0, 0)) (by (with_reducible repeat (first | refine blk_drewN ?_ _ | refine blk_drew ?_ | refine blk_alloc ?_ _)); exact BK101.out) hb)
        have n2_ := Aside0.mk (blk_below (g := gb102) (o := .cells #[.slice none 0 0, .int .i64 x103001_1, .int .i64 x103002_1] 30 (0, 0)) (by (with_reducible repeat (first | refine blk_drewN ?_ _ | refine blk_drew ?_ | refine blk_alloc ?_ _)); exact BK102.out) hb)
        have n3_ := Aside0.mk (blk_below (g := gb105) (o := .cells #[.slice A104_0 ((rd_T30 l0 x14_1).f0.f0).length c104_0, .int .i64 ((rd_T30 l0 x14_1).f1), .int .i64 ((rd_T30 l0 x14_1).f2)] 30 (0, 0)) (by (with_reducible repeat (first | refine blk_drewN ?_ _ | refine blk_drew ?_ | refine blk_alloc ?_ _)); exact BK105.out) hb)
        have n4_ := Aside0.mk (below_step (by repeat (first | (with_reducible first | exact HB.out | apply below_alloc | apply pw_below_drewN | apply below_drew1 | refine below_set ?_ GE101.out | refine below_set ?_ GE102.out | refine below_set ?_ GE105.out) | exact HB.out)) hb)
        clear BK101
        clear BK102
        clear BK105
        clear HB
        have HO109 := n0_
        have BK101 := n1_
        have BK102 := n2_
        have BK105 := n3_
        have HB := n4_
        clear n0_ n1_ n2_ n3_ n4_
        (try clear hb)
        (try clear hb2)
        (try clear hk)
        (try clear hi)
        (try clear ho0)
        obtain ⟨Ao23, co23, eo23⟩ := Kd.R_slice HO109.out
        (first | subst eo23 | (injection eo23 with f1_ f2_ f3_; have f4_ := f1_.symm; have f5_ := f3_.symm; clear f1_ f2_ f3_; subst f4_; subst f5_))
        refine hK.out _ _ ⟨(blk_cell BK105.out 0).trans rfl, (blk_cell BK105.out 1).trans rfl, (blk_cell BK105.out 2).trans rfl⟩ (fun hHeld => ?_)
        clear hK K
        refine norm_ (a' := ?_) ?_ ?_
        rotate_left
        ·show Act.put _ (some 25) _ = _
         simp only [Act.put, List.setIfInBounds_toArray, List.set_cons_zero, List.set_cons_succ, i64_w, i32_w]
         rfl
        refine pure_ (i := 7) (N := some 30) (v := ?_) (a' := ?_) #[true, true, true, true, true, true, true, true, false, false] rfl rfl (any_of HT_.out (by kernel_rfl)) (fun _ _ _ h => h) (Or.inl ⟨by rfl, ?_⟩) ?_ ?_
        rotate_left
        ·intro w'
         go_simp
         with_reducible rfl
        rotate_left
        ·simp only [Act.put, List.setIfInBounds_toArray, List.set_cons_zero, List.set_cons_succ, i64_w, i32_w]
         rfl
        refine one_ (i := 8) (N := none) #[true, true, true, true, true, true, true, true, true, false] rfl rfl (one_of HT_.out (by kernel_rfl)) (by decide) (fun K hK => ?_)
        have hs24 : w22.cell? ⟨gb102, 0, none⟩ = some (.slice none 0 0) := (blk_cell BK102.out 0).trans rfl
        have hfs24 := blk_frozen BK102.out 0
        have hns24_0 := NB101_102.out
        have hns24_2 := NB105_102.out
        have hms24_0 := NB102_101.out
        have hms24_2 := NB102_105.out
        have hs25 : w22.cell? ⟨gb102, 1, none⟩ = some (.int .i64 x103001_1) := (blk_cell BK102.out 1).trans rfl
        have hfs25 := blk_frozen BK102.out 1
        have hns25_0 := NB101_102.out
        have hns25_2 := NB105_102.out
        have hms25_0 := NB102_101.out
        have hms25_2 := NB102_105.out
        have hs26 : w22.cell? ⟨gb102, 2, none⟩ = some (.int .i64 x103002_1) := (blk_cell BK102.out 2).trans rfl
        have hfs26 := blk_frozen BK102.out 2
        have hns26_0 := NB101_102.out
        have hns26_2 := NB105_102.out
        have hms26_0 := NB102_101.out
        have hms26_2 := NB102_105.out
        refine skip_ (w1 := ?_) (by rfl) rfl ?_ ?_
        rotate_left
        ·go_simp
         rfl
        refine hK.out _ _ ⟨((cell_far (p := ⟨gb102, _, none⟩) NB105_102.out _).trans (((cell_far (p := ⟨gb102, _, none⟩) NB105_102.out _).trans (((cell_far (p := ⟨gb102, _, none⟩) NB105_102.out _).trans (hHeld.1)))))), ((cell_far (p := ⟨gb102, _, none⟩) NB105_102.out _).trans (((cell_far (p := ⟨gb102, _, none⟩) NB105_102.out _).trans (((cell_far (p := ⟨gb102, _, none⟩) NB105_102.out _).trans (hHeld.2.1)))))), ((cell_far (p := ⟨gb102, _, none⟩) NB105_102.out _).trans (((cell_far (p := ⟨gb102, _, none⟩) NB105_102.out _).trans (((cell_far (p := ⟨gb102, _, none⟩) NB105_102.out _).trans (hHeld.2.2))))))⟩ (fun hHeld => ?_)
        clear hK K
        refine pure_ (i := 9) (N := some 5) (v := ?_) (a' := ?_) #[true, true, true, true, true, true, true, true, true, true] rfl rfl (any_of HT_.out (by kernel_rfl)) (fun _ _ _ h => h) (Or.inl ⟨by rfl, ?_⟩) ?_ ?_
        rotate_left
        ·intro w'
         go_simp
         with_reducible rfl
        rotate_left
        ·simp only [Act.put, List.setIfInBounds_toArray, List.set_cons_zero, List.set_cons_succ, i64_w, i32_w]
         rfl
        refine done_ (done_of HT_.out (by kernel_rfl)) ?_
        try go_wp2
        refine bodyPost_ret (results_ct rfl _ _ gb102 30 #[.slice Ao23 t107.length co23, .int .i64 ((rd_T30 l0 x14_1).f1), .int .i64 ((rd_T30 l0 x14_1).f2)] (0, 0) _ rfl (by (with_reducible repeat (first | refine blk_drewN ?_ _ | refine blk_drew ?_ | refine blk_alloc ?_ _)); refine blk_put (cs := #[.slice Ao23 t107.length co23, .int .i64 ((rd_T30 l0 x14_1).f1), .int .i64 x103002_1]) ?_ 2 _ rfl; (with_reducible repeat (first | refine blk_drewN ?_ _ | refine blk_drew ?_ | refine blk_alloc ?_ _)); refine blk_put (cs := #[.slice Ao23 t107.length co23, .int .i64 x103001_1, .int .i64 x103002_1]) ?_ 1 _ rfl; (with_reducible repeat (first | refine blk_drewN ?_ _ | refine blk_drew ?_ | refine blk_alloc ?_ _)); refine blk_put (cs := #[.slice none 0 0, .int .i64 x103001_1, .int .i64 x103002_1]) ?_ 0 _ rfl; (with_reducible repeat (first | refine blk_drewN ?_ _ | refine blk_drew ?_ | refine blk_alloc ?_ _)); exact BK102.out) Try.underlying30 rfl (by kernel_rfl)) rfl ?_
        exact ⟨_, by first | rfl | (simp [errW_none, errW_some] <;> rfl) | (simp [*, errW_none, errW_some] <;> rfl), by (with_reducible repeat (first | apply Kd.R_alloc | apply Kd.R_drewN | apply Kd.R_drew)); exact Kd.R_mono (Kd.R_far (p := ⟨gb102, 2, none⟩) (Kd.R_far (p := ⟨gb102, 1, none⟩) (Kd.R_far (p := ⟨gb102, 0, none⟩) (Kd.R_types HO109.out BK102.out (by decide)) (fun _ hk => hk.2) (.slice Ao23 t107.length co23)) (fun _ hk => hk.2) (.int .i64 ((rd_T30 l0 x14_1).f1))) (fun _ hk => hk.2) (.int .i64 ((rd_T30 l0 x14_1).f2))) (fun _ hk => trivial), by repeat (first | (with_reducible first | exact HB.out | apply below_alloc | apply pw_below_drewN | apply below_drew1 | refine below_set ?_ GE101.out | refine below_set ?_ GE102.out | refine below_set ?_ GE105.out) | exact HB.out)⟩
       ·rw [if_neg c12] at H
        have c12b0 : (t106 == 0) = false := beq_eq_false_iff_ne.mpr c12
        have c12b1 : (t106 != 0) = true := bne_iff_ne.mpr c12
        have H' := Aside0.mk H
        clear H
        have p104 : 0 ≤ (x14_1 : Int) := of_decide_eq_true (by first | (with_reducible assumption) | assumption)
        have q104 : x14_1 < (l0.length : Int) := of_decide_eq_true (by first | (with_reducible assumption) | assumption)
        obtain ⟨ad104, A104_0, c104_0, e104, hx104_0, hx104_1, hx104_2, hl104_0, hi104_0⟩ := at_T30 HR0.out x14_1 p104 q104
        cases e104
        replace hx104_0 := (HB.out.cell (World.block_lt_of_cell? w _ hx104_0)).trans hx104_0
        replace hx104_1 := (HB.out.cell (World.block_lt_of_cell? w _ hx104_1)).trans hx104_1
        replace hx104_2 := (HB.out.cell (World.block_lt_of_cell? w _ hx104_2)).trans hx104_2
        have HR104_0 := Aside0.mk hi104_0
        have HC104_0 := Aside0.mk hl104_0
        clear hi104_0 hl104_0
        replace p104 := eq_true p104
        replace q104 := eq_true q104
        go_wp2_with (first | ((with_reducible refine gate_dst (N := 7) rfl ?_); refine box_event ?hg (N := 7) ?hd (cs := #[.slice none 0 0, .int .i64 0, .int .i64 0]) (t := 30) ?hr ?_; (case hd => rfl); (case hg => rfl); (case hr => first | (go_simp; done) | (go_simp; rfl)); intro gb105 hg w27 hbox hb; have n0_ := Aside0.mk (blk_below (g := gb101) (o := .cells #[.slice A1_0 l1_0.length c1_0] 28 (0, 0)) (by (with_reducible repeat (first | refine blk_drewN ?_ _ | refine blk_drew ?_ | refine blk_alloc ?_ _)); exact BK101.out) hb); have n1_ := Aside0.mk (blk_below (g := gb102) (o := .cells #[.slice none 0 0, .int .i64 x103001_1, .int .i64 x103002_1] 30 (0, 0)) (by (with_reducible repeat (first | refine blk_drewN ?_ _ | refine blk_drew ?_ | refine blk_alloc ?_ _)); exact BK102.out) hb); have n2_ := Aside0.mk (below_step (by repeat (first | (with_reducible first | exact HB.out | apply below_alloc | apply pw_below_drewN | apply below_drew1 | refine below_set ?_ GE101.out | refine below_set ?_ GE102.out) | exact HB.out)) hb); have n3_ := Aside0.mk (hbox); have n4_ := Aside0.mk ((by rw [hg]; exact (below_size (by repeat (first | (with_reducible first | exact HB.out | apply below_alloc | apply pw_below_drewN | apply below_drew1 | refine below_set ?_ GE101.out | refine below_set ?_ GE102.out) | exact HB.out))) : w.heap.size ≤ gb105)); have n5_ := Aside0.mk ((by rw [hg]; exact (below_size (by repeat (first | (with_reducible first | exact HB.out | apply below_alloc | apply pw_below_drewN | apply below_drew1 | refine below_set ?_ GE101.out | refine below_set ?_ GE102.out) | exact HB.out))) : w.heap.size ≤ gb105)); have n6_ := Aside0.mk ((by rw [hg]; exact Nat.ne_of_lt (blk_lt (g := gb101) (o := .cells #[.slice A1_0 l1_0.length c1_0] 28 (0, 0)) (by (with_reducible repeat (first | refine blk_drewN ?_ _ | refine blk_drew ?_ | refine blk_alloc ?_ _)); exact BK101.out)) : gb101 ≠ gb105)); have n7_ := Aside0.mk ((by rw [hg]; exact Nat.ne_of_gt (blk_lt (g := gb101) (o := .cells #[.slice A1_0 l1_0.length c1_0] 28 (0, 0)) (by (with_reducible repeat (first | refine blk_drewN ?_ _ | refine blk_drew ?_ | refine blk_alloc ?_ _)); exact BK101.out)) : gb105 ≠ gb101)); have n8_ := Aside0.mk ((by rw [hg]; exact Nat.ne_of_lt (blk_lt (g := gb102) (o := .cells #[.slice none 0 0, .int .i64 x103001_1, .int .i64 x103002_1] 30 (0, 0)) (by (with_reducible repeat (first | refine blk_drewN ?_ _ | refine blk_drew ?_ | refine blk_alloc ?_ _)); exact BK102.out)) : gb102 ≠ gb105)); have n9_ := Aside0.mk ((by rw [hg]; exact Nat.ne_of_gt (blk_lt (g := gb102) (o := .cells #[.slice none 0 0, .int .i64 x103001_1, .int .i64 x103002_1] 30 (0, 0)) (by (with_reducible repeat (first | refine blk_drewN ?_ _ | refine blk_drew ?_ | refine blk_alloc ?_ _)); exact BK102.out)) : gb105 ≠ gb102)); clear BK101; clear BK102; clear HB; have BK101 := n0_; have BK102 := n1_; have HB := n2_; have BK105 := n3_; have GW105 := n4_; have GE105 := n5_; have NB101_105 := n6_; have NB105_101 := n7_; have NB102_105 := n8_; have NB105_102 := n9_; clear n0_ n1_ n2_ n3_ n4_ n5_ n6_ n7_ n8_ n9_; clear hb hbox hg; have hnb28 := NB105_101.out; have hnc28 := NB101_105.out; have hnb29 := NB105_102.out; have hnc29 := NB102_105.out; have hcz30_0 : w27.cell? ⟨gb105, 0, none⟩ = some (.slice none 0 0) := (blk_cell BK105.out 0).trans rfl; have hcz30_1 : w27.cell? ⟨gb105, 1, none⟩ = some (.int .i64 0) := (blk_cell BK105.out 1).trans rfl; have hcz30_2 : w27.cell? ⟨gb105, 2, none⟩ = some (.int .i64 0) := (blk_cell BK105.out 2).trans rfl; have hfz30_0 := blk_frozen BK105.out 0; have hfz30_1 := blk_frozen BK105.out 1; have hfz30_2 := blk_frozen BK105.out 2; have hnb31 := NB101_102.out; have hnc31 := NB102_101.out; have hcz32_0 : w27.cell? ⟨gb101, 0, none⟩ = some (.slice A1_0 l1_0.length c1_0) := (blk_cell BK101.out 0).trans rfl; have hfz32_0 := blk_frozen BK101.out 0) | ((with_reducible refine gate_callee (f := 40) rfl ?_); refine goesL_ (some 21) rfl rfl Try.func40 (by kernel_rfl) rfl #[.agg #[.slice A104_0 ((rd_T30 l0 x14_1).f0.f0).length c104_0], .agg #[.slice A1_0 l1_0.length c1_0]] rfl (by (try simp only [List.map_toArray, List.map_cons, List.map_nil]); first | done | rfl | (simp only [List.length_drop, List.length_take]; rfl)) ?_; (with_reducible refine (spec_l1Compare.calls k1 _ _ ((rd_T30 l0 x14_1).f0.f0) _ _ l1_0 t106 _ ?side1 ?side2 ?side3 ?side4 A11.out).mono ?_); (case side1 => exact Kd.C_below HR104_0.out (by repeat (first | (with_reducible first | exact HB.out | apply below_alloc | apply pw_below_drewN | apply below_drew1 | refine below_set ?_ GE101.out | refine below_set ?_ GE102.out | refine below_set ?_ GE105.out) | exact HB.out))); (case side2 => exact HC104_0.out); (case side3 => exact Kd.C_below HR1_0.out (by repeat (first | (with_reducible first | exact HB.out | apply below_alloc | apply pw_below_drewN | apply below_drew1 | refine below_set ?_ GE101.out | refine below_set ?_ GE102.out | refine below_set ?_ GE105.out) | exact HB.out))); (case side4 => exact HC1_0.out); rintro e w33 ⟨rfl, hb⟩; refine ⟨_, rfl, ?_⟩; have n0_ := Aside0.mk (blk_below (g := gb101) (o := .cells #[.slice A1_0 l1_0.length c1_0] 28 (0, 0)) (by (with_reducible repeat (first | refine blk_drewN ?_ _ | refine blk_drew ?_ | refine blk_alloc ?_ _)); refine blk_far ?_ NB101_105.out _; (with_reducible repeat (first | refine blk_drewN ?_ _ | refine blk_drew ?_ | refine blk_alloc ?_ _)); refine blk_far ?_ NB101_105.out _; (with_reducible repeat (first | refine blk_drewN ?_ _ | refine blk_drew ?_ | refine blk_alloc ?_ _)); refine blk_far ?_ NB101_105.out _; (with_reducible repeat (first | refine blk_drewN ?_ _ | refine blk_drew ?_ | refine blk_alloc ?_ _)); exact BK101.out) hb); have n1_ := Aside0.mk (blk_below (g := gb102) (o := .cells #[.slice none 0 0, .int .i64 x103001_1, .int .i64 x103002_1] 30 (0, 0)) (by (with_reducible repeat (first | refine blk_drewN ?_ _ | refine blk_drew ?_ | refine blk_alloc ?_ _)); refine blk_far ?_ NB102_105.out _; (with_reducible repeat (first | refine blk_drewN ?_ _ | refine blk_drew ?_ | refine blk_alloc ?_ _)); refine blk_far ?_ NB102_105.out _; (with_reducible repeat (first | refine blk_drewN ?_ _ | refine blk_drew ?_ | refine blk_alloc ?_ _)); refine blk_far ?_ NB102_105.out _; (with_reducible repeat (first | refine blk_drewN ?_ _ | refine blk_drew ?_ | refine blk_alloc ?_ _)); exact BK102.out) hb); have n2_ := Aside0.mk (blk_below (g := gb105) (o := .cells #[.slice A104_0 ((rd_T30 l0 x14_1).f0.f0).length c104_0, .int .i64 ((rd_T30 l0 x14_1).f1), .int .i64 ((rd_T30 l0 x14_1).f2)] 30 (0, 0)) (by (with_reducible repeat (first | refine blk_drewN ?_ _ | refine blk_drew ?_ | refine blk_alloc ?_ _)); refine blk_put (cs := #[.slice A104_0 ((rd_T30 l0 x14_1).f0.f0).length c104_0, .int .i64 ((rd_T30 l0 x14_1).f1), .int .i64 0]) ?_ 2 _ rfl; (with_reducible repeat (first | refine blk_drewN ?_ _ | refine blk_drew ?_ | refine blk_alloc ?_ _)); refine blk_put (cs := #[.slice A104_0 ((rd_T30 l0 x14_1).f0.f0).length c104_0, .int .i64 0, .int .i64 0]) ?_ 1 _ rfl; (with_reducible repeat (first | refine blk_drewN ?_ _ | refine blk_drew ?_ | refine blk_alloc ?_ _)); refine blk_put (cs := #[.slice none 0 0, .int .i64 0, .int .i64 0]) ?_ 0 _ rfl; (with_reducible repeat (first | refine blk_drewN ?_ _ | refine blk_drew ?_ | refine blk_alloc ?_ _)); exact BK105.out) hb); have n3_ := Aside0.mk (below_step (by repeat (first | (with_reducible first | exact HB.out | apply below_alloc | apply pw_below_drewN | apply below_drew1 | refine below_set ?_ GE101.out | refine below_set ?_ GE102.out | refine below_set ?_ GE105.out) | exact HB.out)) hb); clear BK101; clear BK102; clear BK105; clear HB; have BK101 := n0_; have BK102 := n1_; have BK105 := n2_; have HB := n3_; clear n0_ n1_ n2_ n3_; (try clear hb); (try clear hb2); (try clear hk); (try clear hi)))
        go_roundg k1
        case measure => have := HK1.out; omega
        case rel => exact ⟨(wrap64 (x14_1 + 1)), (x103001_1), (x103002_1), (by first | rfl | (simp; done) | (simp [*]; done)), H', ⟨by have := HK1.out; omega⟩, ⟨by (with_reducible repeat (first | refine blk_drewN ?_ _ | refine blk_drew ?_ | refine blk_alloc ?_ _)); exact BK101.out⟩, ⟨by (with_reducible repeat (first | refine blk_drewN ?_ _ | refine blk_drew ?_ | refine blk_alloc ?_ _)); exact BK102.out⟩, ⟨by repeat (first | (with_reducible first | exact HB.out | apply below_alloc | apply pw_below_drewN | apply below_drew1 | refine below_set ?_ GE101.out | refine below_set ?_ GE102.out | refine below_set ?_ GE105.out) | exact HB.out)⟩⟩
      ·rw [if_neg c10] at H
       exact absurd H (by simp)
     ·rw [if_neg c9] at H
      exact absurd H (by simp)
    ·rw [if_neg c8] at H
     have c8b0 : decide (x14_1 < (l0.length : Int)) = false := decide_eq_false c8
     clear c8
     simp only [Option.some.injEq, Prod.mk.injEq] at H
     obtain ⟨rfl, rfl, rfl, rfl⟩ := H
     have hnb34 := NB102_101.out
     have hnc34 := NB101_102.out
     have hcz35_0 : wr.cell? ⟨gb102, 0, none⟩ = some (.slice none 0 0) := (blk_cell BK102.out 0).trans rfl
     have hcz35_1 : wr.cell? ⟨gb102, 1, none⟩ = some (.int .i64 x103001_1) := (blk_cell BK102.out 1).trans rfl
     have hcz35_2 : wr.cell? ⟨gb102, 2, none⟩ = some (.int .i64 x103002_1) := (blk_cell BK102.out 2).trans rfl
     have hfz35_0 := blk_frozen BK102.out 0
     have hfz35_1 := blk_frozen BK102.out 1
     have hfz35_2 := blk_frozen BK102.out 2
     go_wp2
     refine bodyPost_ret (results_ct rfl _ _ gb102 30 #[.slice none 0 0, .int .i64 0, .int .i64 0] (0, 0) _ rfl (by (with_reducible repeat (first | refine blk_drewN ?_ _ | refine blk_drew ?_ | refine blk_alloc ?_ _)); refine blk_put (cs := #[.slice none 0 0, .int .i64 0, .int .i64 x103002_1]) ?_ 2 _ rfl; (with_reducible repeat (first | refine blk_drewN ?_ _ | refine blk_drew ?_ | refine blk_alloc ?_ _)); refine blk_put (cs := #[.slice none 0 0, .int .i64 x103001_1, .int .i64 x103002_1]) ?_ 1 _ rfl; (with_reducible repeat (first | refine blk_drewN ?_ _ | refine blk_drew ?_ | refine blk_alloc ?_ _)); refine blk_put (cs := #[.slice none 0 0, .int .i64 x103001_1, .int .i64 x103002_1]) ?_ 0 _ rfl; (with_reducible repeat (first | refine blk_drewN ?_ _ | refine blk_drew ?_ | refine blk_alloc ?_ _)); exact BK102.out) Try.underlying30 rfl (by kernel_rfl)) rfl ?_
     exact ⟨_, by first | rfl | (simp [errW_none, errW_some] <;> rfl) | (simp [*, errW_none, errW_some] <;> rfl), by first | exact Kd.R_nil _ _ _ _ _ | exact Kd.N_nil _ _ _ _ _ | exact Kd.V_nil _ _ _ _ _ | exact Kd.Q_nil _ _ _ _ _ | exact Kd.S_nil _ _ _ _ _, by repeat (first | (with_reducible first | exact HB.out | apply below_alloc | apply pw_below_drewN | apply below_drew1 | refine below_set ?_ GE101.out | refine below_set ?_ GE102.out) | exact HB.out)⟩
 ·replace c4 := Bool.eq_false_iff.mpr c4
  subst c4
  have H1 : (some (([] : List Int), 0, 0, false)) = some (r1, r2, r3, r4) := by rw [if_neg (show ¬ (false = true) by decide)] at H; exact H
  clear H
  have H := H1
  clear H1
  simp only [Option.some.injEq, Prod.mk.injEq] at H
  obtain ⟨rfl, rfl, rfl, rfl⟩ := H
  go_enter Try.func8, Try.ntmps8
  go_wp2_with (first | ((with_reducible refine gate_dst (N := 3) rfl ?_); refine box_event ?hg (N := 3) ?hd (cs := #[.slice A1_0 l1_0.length c1_0]) (t := 28) ?hr ?_; (case hd => rfl); (case hg => rfl); (case hr => first | (go_simp; done) | (go_simp; rfl)); intro gb101 hg w36 hbox hb; have n0_ := Aside0.mk (below_step (by repeat (first | (with_reducible first | exact HB.out | apply below_alloc | apply pw_below_drewN | apply below_drew1) | exact HB.out)) hb); have n1_ := Aside0.mk (hbox); have n2_ := Aside0.mk ((by rw [hg]; exact (below_size (by repeat (first | (with_reducible first | exact HB.out | apply below_alloc | apply pw_below_drewN | apply below_drew1) | exact HB.out))) : w.heap.size ≤ gb101)); have n3_ := Aside0.mk ((by rw [hg]; exact (below_size (by repeat (first | (with_reducible first | exact HB.out | apply below_alloc | apply pw_below_drewN | apply below_drew1) | exact HB.out))) : w.heap.size ≤ gb101)); clear HB; have HB := n0_; have BK101 := n1_; have GW101 := n2_; have GE101 := n3_; clear n0_ n1_ n2_ n3_; clear hb hbox hg) | ((with_reducible refine gate_dst (N := 4) rfl ?_); refine box_event ?hg (N := 4) ?hd (cs := #[.slice none 0 0, .int .i64 0, .int .i64 0]) (t := 30) ?hr ?_; (case hd => rfl); (case hg => rfl); (case hr => first | (go_simp; done) | (go_simp; rfl)); intro gb102 hg w37 hbox hb; have n0_ := Aside0.mk (blk_below (g := gb101) (o := .cells #[.slice A1_0 l1_0.length c1_0] 28 (0, 0)) (by (with_reducible repeat (first | refine blk_drewN ?_ _ | refine blk_drew ?_ | refine blk_alloc ?_ _)); exact BK101.out) hb); have n1_ := Aside0.mk (below_step (by repeat (first | (with_reducible first | exact HB.out | apply below_alloc | apply pw_below_drewN | apply below_drew1 | refine below_set ?_ GE101.out) | exact HB.out)) hb); have n2_ := Aside0.mk (hbox); have n3_ := Aside0.mk ((by rw [hg]; exact (below_size (by repeat (first | (with_reducible first | exact HB.out | apply below_alloc | apply pw_below_drewN | apply below_drew1 | refine below_set ?_ GE101.out) | exact HB.out))) : w.heap.size ≤ gb102)); have n4_ := Aside0.mk ((by rw [hg]; exact (below_size (by repeat (first | (with_reducible first | exact HB.out | apply below_alloc | apply pw_below_drewN | apply below_drew1 | refine below_set ?_ GE101.out) | exact HB.out))) : w.heap.size ≤ gb102)); have n5_ := Aside0.mk ((by rw [hg]; exact Nat.ne_of_lt (blk_lt (g := gb101) (o := .cells #[.slice A1_0 l1_0.length c1_0] 28 (0, 0)) (by (with_reducible repeat (first | refine blk_drewN ?_ _ | refine blk_drew ?_ | refine blk_alloc ?_ _)); exact BK101.out)) : gb101 ≠ gb102)); have n6_ := Aside0.mk ((by rw [hg]; exact Nat.ne_of_gt (blk_lt (g := gb101) (o := .cells #[.slice A1_0 l1_0.length c1_0] 28 (0, 0)) (by (with_reducible repeat (first | refine blk_drewN ?_ _ | refine blk_drew ?_ | refine blk_alloc ?_ _)); exact BK101.out)) : gb102 ≠ gb101)); clear BK101; clear HB; have BK101 := n0_; have HB := n1_; have BK102 := n2_; have GW102 := n3_; have GE102 := n4_; have NB101_102 := n5_; have NB102_101 := n6_; clear n0_ n1_ n2_ n3_ n4_ n5_ n6_; clear hb hbox hg) | ((with_reducible refine gate_callee (f := 39) rfl ?_); refine goesL_ (some 9) rfl rfl Try.func39 (by kernel_rfl) rfl #[.slice A0 l0.length c0] rfl (by (try simp only [List.map_toArray, List.map_cons, List.map_nil]); first | done | rfl | (simp only [List.length_drop, List.length_take]; rfl)) ?_; (with_reducible refine (spec_GoodGroups.calls _ _ l0 false _ ?side1 ?side2 A3.out).mono ?_); (case side1 => repeat (first | exact (Kd.C_below HR0.out HB.out) | (with_reducible refine Kd.C_alloc ?_ _) | (with_reducible refine Kd.C_drewN ?_ _) | (with_reducible refine Kd.C_drew ?_))); (case side2 => exact HC0.out); rintro e w38 ⟨rfl, hb⟩; refine ⟨_, rfl, ?_⟩; have n0_ := Aside0.mk (blk_below (g := gb101) (o := .cells #[.slice A1_0 l1_0.length c1_0] 28 (0, 0)) (by (with_reducible repeat (first | refine blk_drewN ?_ _ | refine blk_drew ?_ | refine blk_alloc ?_ _)); exact BK101.out) hb); have n1_ := Aside0.mk (blk_below (g := gb102) (o := .cells #[.slice none 0 0, .int .i64 0, .int .i64 0] 30 (0, 0)) (by (with_reducible repeat (first | refine blk_drewN ?_ _ | refine blk_drew ?_ | refine blk_alloc ?_ _)); exact BK102.out) hb); have n2_ := Aside0.mk (below_step (by repeat (first | (with_reducible first | exact HB.out | apply below_alloc | apply pw_below_drewN | apply below_drew1 | refine below_set ?_ GE101.out | refine below_set ?_ GE102.out) | exact HB.out)) hb); clear BK101; clear BK102; clear HB; have BK101 := n0_; have BK102 := n1_; have HB := n2_; clear n0_ n1_ n2_; (try clear hb); (try clear hb2); (try clear hk); (try clear hi); have hnb39 := NB102_101.out; have hnc39 := NB101_102.out; have hcz40_0 : w38.cell? ⟨gb102, 0, none⟩ = some (.slice none 0 0) := (blk_cell BK102.out 0).trans rfl; have hcz40_1 : w38.cell? ⟨gb102, 1, none⟩ = some (.int .i64 0) := (blk_cell BK102.out 1).trans rfl; have hcz40_2 : w38.cell? ⟨gb102, 2, none⟩ = some (.int .i64 0) := (blk_cell BK102.out 2).trans rfl; have hfz40_0 := blk_frozen BK102.out 0; have hfz40_1 := blk_frozen BK102.out 1; have hfz40_2 := blk_frozen BK102.out 2))
  refine bodyPost_ret (results_ct rfl _ _ gb102 30 #[.slice none 0 0, .int .i64 0, .int .i64 0] (0, 0) _ rfl (by (with_reducible repeat (first | refine blk_drewN ?_ _ | refine blk_drew ?_ | refine blk_alloc ?_ _)); refine blk_put (cs := #[.slice none 0 0, .int .i64 0, .int .i64 0]) ?_ 2 _ rfl; (with_reducible repeat (first | refine blk_drewN ?_ _ | refine blk_drew ?_ | refine blk_alloc ?_ _)); refine blk_put (cs := #[.slice none 0 0, .int .i64 0, .int .i64 0]) ?_ 1 _ rfl; (with_reducible repeat (first | refine blk_drewN ?_ _ | refine blk_drew ?_ | refine blk_alloc ?_ _)); refine blk_put (cs := #[.slice none 0 0, .int .i64 0, .int .i64 0]) ?_ 0 _ rfl; (with_reducible repeat (first | refine blk_drewN ?_ _ | refine blk_drew ?_ | refine blk_alloc ?_ _)); exact BK102.out) Try.underlying30 rfl (by kernel_rfl)) rfl ?_
  exact ⟨_, by first | rfl | (simp [errW_none, errW_some] <;> rfl) | (simp [*, errW_none, errW_some] <;> rfl), by first | exact Kd.R_nil _ _ _ _ _ | exact Kd.N_nil _ _ _ _ _ | exact Kd.V_nil _ _ _ _ _ | exact Kd.Q_nil _ _ _ _ _ | exact Kd.S_nil _ _ _ _ _, by repeat (first | (with_reducible first | exact HB.out | apply below_alloc | apply pw_below_drewN | apply below_drew1 | refine below_set ?_ GE101.out | refine below_set ?_ GE102.out) | exact HB.out)⟩

end Go.Proofs.Ytbnmkikifjidjaa.Q
end
section
/- Contracts of a function, printed for this claim by a program of ours over the kit's print. -/
namespace Go.Proofs.Ytbnmkikifjidjaa.Q
open Go.RowKit Go.Proofs.YtbnmkikifjidjaaW.PrintWords Go.Proofs.YtbnmkikifjidjaaW.PrintLast Go.Proofs.YtbnmkikifjidjaaW.PrintMore
attribute [local go_sem] max2_int min2_int max_two min_two max_three min_three max_four min_four   -- for this text's walks alone
set_option linter.unusedVariables false
set_option linter.unusedSimpArgs false

/-! ### laws_szIntS: function 38 -/
def laws_szIntS.f (l0 : List Int) (a1 : Int) : Option (Int) := if (wrap64 (a1 - (l0.length : Int))) < 0 then (some (-1)) else (some (wrap64 (a1 - (l0.length : Int))))
set_option maxHeartbeats 8000000 in
set_option maxRecDepth 100000 in
theorem laws_szIntS.calls (A0 : Option Addr) (c0 : Nat) (l0 : List Int) (a1 : Int) (r : Int) (w : World) (hr0 : Kd.C (Kd.int .i64) w A0 l0.length l0) (hc0 : l0.length ≤ c0) (h : laws_szIntS.f l0 a1 = some r) :
  Calls Try.prog 38 #[.slice A0 l0.length c0, .int .i64 a1] w fun e w' => e = .returned (.int .i64 r) ∧ Drawn0 w w' := by
 have HR0 := Aside0.mk hr0
 have HC0 := Aside0.mk hc0
 clear hr0 hc0
 have H : (if (wrap64 (a1 - (l0.length : Int))) < 0 then (some (-1)) else (some (wrap64 (a1 - (l0.length : Int))))) = some r := h
 clear h
 by_cases c3 : (wrap64 (a1 - (l0.length : Int))) < 0
 ·rw [if_pos c3] at H
  have c3b0 : decide ((wrap64 (a1 - (l0.length : Int))) < 0) = true := decide_eq_true c3
  clear c3
  obtain rfl := Option.some.inj H
  go_enter Try.func38, Try.ntmps38
  go_wp2
  go_ret
  exact ⟨by first | rfl | (simp; done) | (simp [*]; done), by repeat (first | exact Drawn0.refl _ | apply Drawn0.step)⟩
 ·rw [if_neg c3] at H
  have c3b0 : decide ((wrap64 (a1 - (l0.length : Int))) < 0) = false := decide_eq_false c3
  clear c3
  obtain rfl := Option.some.inj H
  go_enter Try.func38, Try.ntmps38
  go_wp2
  go_ret
  exact ⟨by first | rfl | (simp; done) | (simp [*]; done), by repeat (first | exact Drawn0.refl _ | apply Drawn0.step)⟩

end Go.Proofs.Ytbnmkikifjidjaa.Q
end
section
/- Contracts of a function, printed for this claim by a program of ours over the kit's print. -/
namespace Go.Proofs.Ytbnmkikifjidjaa.Q
open Go.RowKit Go.Proofs.YtbnmkikifjidjaaW.PrintWords Go.Proofs.YtbnmkikifjidjaaW.PrintLast Go.Proofs.YtbnmkikifjidjaaW.PrintMore
attribute [local go_sem] max2_int min2_int max_two min_two max_three min_three max_four min_four   -- for this text's walks alone
set_option linter.unusedVariables false
set_option linter.unusedSimpArgs false

/-! ### laws_szRow: function 7 -/
def laws_szRow.f (l0_0 : List Int) (a1 : Int) : Option (Int) := (laws_szIntS.f l0_0 a1).bind fun t102 => (if t102 < 0 then (some (-1)) else (some t102))
set_option maxHeartbeats 8000000 in
set_option maxRecDepth 100000 in
theorem laws_szRow.calls (A0_0 : Option Addr) (c0_0 : Nat) (l0_0 : List Int) (a1 : Int) (r : Int) (w : World) (hr0_0 : Kd.C (Kd.int .i64) w A0_0 l0_0.length l0_0) (hc0_0 : l0_0.length ≤ c0_0) (h : laws_szRow.f l0_0 a1 = some r) :
  Calls Try.prog 7 #[.agg #[.slice A0_0 l0_0.length c0_0], .int .i64 a1] w fun e w' => e = .returned (.int .i64 r) ∧ Below w.heap.size w w' := by
 have hu25 := Try.underlying25
 have HR0_0 := Aside0.mk hr0_0
 have HC0_0 := Aside0.mk hc0_0
 clear hr0_0 hc0_0
 have HB := Aside0.mk (Below.refl w.heap.size w)
 have H : ((laws_szIntS.f l0_0 a1).bind fun t102 => (if t102 < 0 then (some (-1)) else (some t102))) = some r := h
 clear h
 replace H := Option.bind_eq_some_iff.mp H
 obtain ⟨t102, A30, H⟩ := H
 replace H : (if t102 < 0 then (some (-1)) else (some t102)) = some r := H
 have A3 := Aside0.mk A30
 clear A30
 by_cases c4 : t102 < 0
 ·rw [if_pos c4] at H
  have c4b0 : decide (t102 < 0) = true := decide_eq_true c4
  clear c4
  obtain rfl := Option.some.inj H
  go_enter Try.func7, Try.ntmps7
  go_wp2_with (first | ((with_reducible refine gate_dst (N := 2) rfl ?_); refine box_event ?hg (N := 2) ?hd (cs := #[.slice A0_0 l0_0.length c0_0]) (t := 25) ?hr ?_; (case hd => rfl); (case hg => rfl); (case hr => first | (go_simp; done) | (go_simp; rfl)); intro gb101 hg w5 hbox hb; have n0_ := Aside0.mk (below_step (by repeat (first | (with_reducible first | exact HB.out | apply below_alloc | apply pw_below_drewN | apply below_drew1) | exact HB.out)) hb); have n1_ := Aside0.mk (hbox); have n2_ := Aside0.mk ((by rw [hg]; exact (below_size (by repeat (first | (with_reducible first | exact HB.out | apply below_alloc | apply pw_below_drewN | apply below_drew1) | exact HB.out))) : w.heap.size ≤ gb101)); have n3_ := Aside0.mk ((by rw [hg]; exact (below_size (by repeat (first | (with_reducible first | exact HB.out | apply below_alloc | apply pw_below_drewN | apply below_drew1) | exact HB.out))) : w.heap.size ≤ gb101)); clear HB; have HB := n0_; have BK101 := n1_; have GW101 := n2_; have GE101 := n3_; clear n0_ n1_ n2_ n3_; clear hb hbox hg; have hcz6_0 : w5.cell? ⟨gb101, 0, none⟩ = some (.slice A0_0 l0_0.length c0_0) := (blk_cell BK101.out 0).trans rfl; have hfz6_0 := blk_frozen BK101.out 0) | ((with_reducible refine gate_callee (f := 38) rfl ?_); refine goesL_ (some 8) rfl rfl Try.func38 (by kernel_rfl) rfl #[.slice A0_0 l0_0.length c0_0, .int .i64 a1] rfl (by (try simp only [List.map_toArray, List.map_cons, List.map_nil]); first | done | rfl | (simp only [List.length_drop, List.length_take]; rfl)) ?_; (with_reducible refine (laws_szIntS.calls _ _ l0_0 a1 t102 _ ?side1 ?side2 A3.out).mono ?_); (case side1 => repeat (first | exact (Kd.C_below HR0_0.out HB.out) | (with_reducible refine Kd.C_alloc ?_ _) | (with_reducible refine Kd.C_drewN ?_ _) | (with_reducible refine Kd.C_drew ?_))); (case side2 => exact HC0_0.out); rintro e w' ⟨rfl, ⟨nd, rfl⟩⟩; refine ⟨_, rfl, ?_⟩))
  go_ret
  exact ⟨by first | rfl | (simp [errW_none, errW_some] <;> rfl) | (simp [*, errW_none, errW_some] <;> rfl), by repeat (first | (with_reducible first | exact HB.out | apply below_alloc | apply pw_below_drewN | apply below_drew1 | refine below_set ?_ GE101.out) | exact HB.out)⟩
 ·rw [if_neg c4] at H
  have c4b0 : decide (t102 < 0) = false := decide_eq_false c4
  clear c4
  obtain rfl := Option.some.inj H
  go_enter Try.func7, Try.ntmps7
  go_wp2_with (first | ((with_reducible refine gate_dst (N := 2) rfl ?_); refine box_event ?hg (N := 2) ?hd (cs := #[.slice A0_0 l0_0.length c0_0]) (t := 25) ?hr ?_; (case hd => rfl); (case hg => rfl); (case hr => first | (go_simp; done) | (go_simp; rfl)); intro gb101 hg w7 hbox hb; have n0_ := Aside0.mk (below_step (by repeat (first | (with_reducible first | exact HB.out | apply below_alloc | apply pw_below_drewN | apply below_drew1) | exact HB.out)) hb); have n1_ := Aside0.mk (hbox); have n2_ := Aside0.mk ((by rw [hg]; exact (below_size (by repeat (first | (with_reducible first | exact HB.out | apply below_alloc | apply pw_below_drewN | apply below_drew1) | exact HB.out))) : w.heap.size ≤ gb101)); have n3_ := Aside0.mk ((by rw [hg]; exact (below_size (by repeat (first | (with_reducible first | exact HB.out | apply below_alloc | apply pw_below_drewN | apply below_drew1) | exact HB.out))) : w.heap.size ≤ gb101)); clear HB; have HB := n0_; have BK101 := n1_; have GW101 := n2_; have GE101 := n3_; clear n0_ n1_ n2_ n3_; clear hb hbox hg; have hcz8_0 : w7.cell? ⟨gb101, 0, none⟩ = some (.slice A0_0 l0_0.length c0_0) := (blk_cell BK101.out 0).trans rfl; have hfz8_0 := blk_frozen BK101.out 0) | ((with_reducible refine gate_callee (f := 38) rfl ?_); refine goesL_ (some 8) rfl rfl Try.func38 (by kernel_rfl) rfl #[.slice A0_0 l0_0.length c0_0, .int .i64 a1] rfl (by (try simp only [List.map_toArray, List.map_cons, List.map_nil]); first | done | rfl | (simp only [List.length_drop, List.length_take]; rfl)) ?_; (with_reducible refine (laws_szIntS.calls _ _ l0_0 a1 t102 _ ?side1 ?side2 A3.out).mono ?_); (case side1 => repeat (first | exact (Kd.C_below HR0_0.out HB.out) | (with_reducible refine Kd.C_alloc ?_ _) | (with_reducible refine Kd.C_drewN ?_ _) | (with_reducible refine Kd.C_drew ?_))); (case side2 => exact HC0_0.out); rintro e w' ⟨rfl, ⟨nd, rfl⟩⟩; refine ⟨_, rfl, ?_⟩))
  go_ret
  exact ⟨by first | rfl | (simp [errW_none, errW_some] <;> rfl) | (simp [*, errW_none, errW_some] <;> rfl), by repeat (first | (with_reducible first | exact HB.out | apply below_alloc | apply pw_below_drewN | apply below_drew1 | refine below_set ?_ GE101.out) | exact HB.out)⟩

end Go.Proofs.Ytbnmkikifjidjaa.Q
end
section
/- Contracts of a function, printed for this claim by a program of ours over the kit's print. -/
namespace Go.Proofs.Ytbnmkikifjidjaa.Q
open Go.RowKit Go.Proofs.YtbnmkikifjidjaaW.PrintWords Go.Proofs.YtbnmkikifjidjaaW.PrintLast Go.Proofs.YtbnmkikifjidjaaW.PrintMore
attribute [local go_sem] max2_int min2_int max_two min_two max_three min_three max_four min_four   -- for this text's walks alone
set_option linter.unusedVariables false
set_option linter.unusedSimpArgs false

/-! ### laws_szGroup: function 37 -/
def laws_szGroup.f (l0_0 : List Int) (a0_1 : Int) (a0_2 : Int) (a1 : Int) : Option (Int) := (laws_szRow.f l0_0 a1).bind fun t102 => (if t102 < 0 then (some (-1)) else (some t102))
set_option maxHeartbeats 8000000 in
set_option maxRecDepth 100000 in
theorem laws_szGroup.calls (A0_0 : Option Addr) (c0_0 : Nat) (l0_0 : List Int) (a0_1 : Int) (a0_2 : Int) (a1 : Int) (r : Int) (w : World) (hr0_0 : Kd.C (Kd.int .i64) w A0_0 l0_0.length l0_0) (hc0_0 : l0_0.length ≤ c0_0) (h : laws_szGroup.f l0_0 a0_1 a0_2 a1 = some r) :
  Calls Try.prog 37 #[.agg #[.slice A0_0 l0_0.length c0_0, .int .i64 a0_1, .int .i64 a0_2], .int .i64 a1] w fun e w' => e = .returned (.int .i64 r) ∧ Below w.heap.size w w' := by
 have hu75 := Try.underlying75
 have hu25 := Try.underlying25
 have HR0_0 := Aside0.mk hr0_0
 have HC0_0 := Aside0.mk hc0_0
 clear hr0_0 hc0_0
 have HB := Aside0.mk (Below.refl w.heap.size w)
 have H : ((laws_szRow.f l0_0 a1).bind fun t102 => (if t102 < 0 then (some (-1)) else (some t102))) = some r := h
 clear h
 replace H := Option.bind_eq_some_iff.mp H
 obtain ⟨t102, A30, H⟩ := H
 replace H : (if t102 < 0 then (some (-1)) else (some t102)) = some r := H
 have A3 := Aside0.mk A30
 clear A30
 by_cases c4 : t102 < 0
 ·rw [if_pos c4] at H
  have c4b0 : decide (t102 < 0) = true := decide_eq_true c4
  clear c4
  obtain rfl := Option.some.inj H
  go_enter Try.func37, Try.ntmps37
  go_wp2_with (first | ((with_reducible refine gate_dst (N := 2) rfl ?_); refine box_event ?hg (N := 2) ?hd (cs := #[.slice A0_0 l0_0.length c0_0, .int .i64 a0_1, .int .i64 a0_2]) (t := 75) ?hr ?_; (case hd => rfl); (case hg => rfl); (case hr => first | (go_simp; done) | (go_simp; rfl)); intro gb101 hg w5 hbox hb; have n0_ := Aside0.mk (below_step (by repeat (first | (with_reducible first | exact HB.out | apply below_alloc | apply pw_below_drewN | apply below_drew1) | exact HB.out)) hb); have n1_ := Aside0.mk (hbox); have n2_ := Aside0.mk ((by rw [hg]; exact (below_size (by repeat (first | (with_reducible first | exact HB.out | apply below_alloc | apply pw_below_drewN | apply below_drew1) | exact HB.out))) : w.heap.size ≤ gb101)); have n3_ := Aside0.mk ((by rw [hg]; exact (below_size (by repeat (first | (with_reducible first | exact HB.out | apply below_alloc | apply pw_below_drewN | apply below_drew1) | exact HB.out))) : w.heap.size ≤ gb101)); clear HB; have HB := n0_; have BK101 := n1_; have GW101 := n2_; have GE101 := n3_; clear n0_ n1_ n2_ n3_; clear hb hbox hg; have hcz6_0 : w5.cell? ⟨gb101, 0, none⟩ = some (.slice A0_0 l0_0.length c0_0) := (blk_cell BK101.out 0).trans rfl; have hcz6_1 : w5.cell? ⟨gb101, 1, none⟩ = some (.int .i64 a0_1) := (blk_cell BK101.out 1).trans rfl; have hcz6_2 : w5.cell? ⟨gb101, 2, none⟩ = some (.int .i64 a0_2) := (blk_cell BK101.out 2).trans rfl; have hfz6_0 := blk_frozen BK101.out 0; have hfz6_1 := blk_frozen BK101.out 1; have hfz6_2 := blk_frozen BK101.out 2) | ((with_reducible refine gate_callee (f := 7) rfl ?_); refine goesL_ (some 8) rfl rfl Try.func7 (by kernel_rfl) rfl #[.agg #[.slice A0_0 l0_0.length c0_0], .int .i64 a1] rfl (by (try simp only [List.map_toArray, List.map_cons, List.map_nil]); first | done | rfl | (simp only [List.length_drop, List.length_take]; rfl)) ?_; (with_reducible refine (laws_szRow.calls _ _ l0_0 a1 t102 _ ?side1 ?side2 A3.out).mono ?_); (case side1 => repeat (first | exact (Kd.C_below HR0_0.out HB.out) | (with_reducible refine Kd.C_alloc ?_ _) | (with_reducible refine Kd.C_drewN ?_ _) | (with_reducible refine Kd.C_drew ?_))); (case side2 => exact HC0_0.out); rintro e w7 ⟨rfl, hb⟩; refine ⟨_, rfl, ?_⟩; have n0_ := Aside0.mk (blk_below (g := gb101) (o := .cells #[.slice A0_0 l0_0.length c0_0, .int .i64 a0_1, .int .i64 a0_2] 75 (0, 0)) (by (with_reducible repeat (first | refine blk_drewN ?_ _ | refine blk_drew ?_ | refine blk_alloc ?_ _)); exact BK101.out) hb); have n1_ := Aside0.mk (below_step (by repeat (first | (with_reducible first | exact HB.out | apply below_alloc | apply pw_below_drewN | apply below_drew1 | refine below_set ?_ GE101.out) | exact HB.out)) hb); clear BK101; clear HB; have BK101 := n0_; have HB := n1_; clear n0_ n1_; (try clear hb); (try clear hb2); (try clear hk); (try clear hi)))
  go_ret
  exact ⟨by first | rfl | (simp [errW_none, errW_some] <;> rfl) | (simp [*, errW_none, errW_some] <;> rfl), by repeat (first | (with_reducible first | exact HB.out | apply below_alloc | apply pw_below_drewN | apply below_drew1 | refine below_set ?_ GE101.out) | exact HB.out)⟩
 ·rw [if_neg c4] at H
  have c4b0 : decide (t102 < 0) = false := decide_eq_false c4
  clear c4
  obtain rfl := Option.some.inj H
  go_enter Try.func37, Try.ntmps37
  go_wp2_with (first | ((with_reducible refine gate_dst (N := 2) rfl ?_); refine box_event ?hg (N := 2) ?hd (cs := #[.slice A0_0 l0_0.length c0_0, .int .i64 a0_1, .int .i64 a0_2]) (t := 75) ?hr ?_; (case hd => rfl); (case hg => rfl); (case hr => first | (go_simp; done) | (go_simp; rfl)); intro gb101 hg w8 hbox hb; have n0_ := Aside0.mk (below_step (by repeat (first | (with_reducible first | exact HB.out | apply below_alloc | apply pw_below_drewN | apply below_drew1) | exact HB.out)) hb); have n1_ := Aside0.mk (hbox); have n2_ := Aside0.mk ((by rw [hg]; exact (below_size (by repeat (first | (with_reducible first | exact HB.out | apply below_alloc | apply pw_below_drewN | apply below_drew1) | exact HB.out))) : w.heap.size ≤ gb101)); have n3_ := Aside0.mk ((by rw [hg]; exact (below_size (by repeat (first | (with_reducible first | exact HB.out | apply below_alloc | apply pw_below_drewN | apply below_drew1) | exact HB.out))) : w.heap.size ≤ gb101)); clear HB; have HB := n0_; have BK101 := n1_; have GW101 := n2_; have GE101 := n3_; clear n0_ n1_ n2_ n3_; clear hb hbox hg; have hcz9_0 : w8.cell? ⟨gb101, 0, none⟩ = some (.slice A0_0 l0_0.length c0_0) := (blk_cell BK101.out 0).trans rfl; have hcz9_1 : w8.cell? ⟨gb101, 1, none⟩ = some (.int .i64 a0_1) := (blk_cell BK101.out 1).trans rfl; have hcz9_2 : w8.cell? ⟨gb101, 2, none⟩ = some (.int .i64 a0_2) := (blk_cell BK101.out 2).trans rfl; have hfz9_0 := blk_frozen BK101.out 0; have hfz9_1 := blk_frozen BK101.out 1; have hfz9_2 := blk_frozen BK101.out 2) | ((with_reducible refine gate_callee (f := 7) rfl ?_); refine goesL_ (some 8) rfl rfl Try.func7 (by kernel_rfl) rfl #[.agg #[.slice A0_0 l0_0.length c0_0], .int .i64 a1] rfl (by (try simp only [List.map_toArray, List.map_cons, List.map_nil]); first | done | rfl | (simp only [List.length_drop, List.length_take]; rfl)) ?_; (with_reducible refine (laws_szRow.calls _ _ l0_0 a1 t102 _ ?side1 ?side2 A3.out).mono ?_); (case side1 => repeat (first | exact (Kd.C_below HR0_0.out HB.out) | (with_reducible refine Kd.C_alloc ?_ _) | (with_reducible refine Kd.C_drewN ?_ _) | (with_reducible refine Kd.C_drew ?_))); (case side2 => exact HC0_0.out); rintro e w10 ⟨rfl, hb⟩; refine ⟨_, rfl, ?_⟩; have n0_ := Aside0.mk (blk_below (g := gb101) (o := .cells #[.slice A0_0 l0_0.length c0_0, .int .i64 a0_1, .int .i64 a0_2] 75 (0, 0)) (by (with_reducible repeat (first | refine blk_drewN ?_ _ | refine blk_drew ?_ | refine blk_alloc ?_ _)); exact BK101.out) hb); have n1_ := Aside0.mk (below_step (by repeat (first | (with_reducible first | exact HB.out | apply below_alloc | apply pw_below_drewN | apply below_drew1 | refine below_set ?_ GE101.out) | exact HB.out)) hb); clear BK101; clear HB; have BK101 := n0_; have HB := n1_; clear n0_ n1_; (try clear hb); (try clear hb2); (try clear hk); (try clear hi)))
  go_ret
  exact ⟨by first | rfl | (simp [errW_none, errW_some] <;> rfl) | (simp [*, errW_none, errW_some] <;> rfl), by repeat (first | (with_reducible first | exact HB.out | apply below_alloc | apply pw_below_drewN | apply below_drew1 | refine below_set ?_ GE101.out) | exact HB.out)⟩

end Go.Proofs.Ytbnmkikifjidjaa.Q
end
section
/- Contracts of a function, printed for this claim by a program of ours over the kit's print. -/
namespace Go.Proofs.Ytbnmkikifjidjaa.Q
open Go.RowKit Go.Proofs.YtbnmkikifjidjaaW.PrintWords Go.Proofs.YtbnmkikifjidjaaW.PrintLast Go.Proofs.YtbnmkikifjidjaaW.PrintMore
attribute [local go_sem] max2_int min2_int max_two min_two max_three min_three max_four min_four   -- for this text's walks alone
set_option linter.unusedVariables false
set_option linter.unusedSimpArgs false

/-! ### laws_szGroupS: function 6 -/
def laws_szGroupS.l0 : Nat → List (S75) → Int → Int → Option (Int)
 | 0, _, _, _ => none
 | k + 1, x0, x1, x5 => if x5 < (x0.length : Int) then (if 0 ≤ x5 then ((laws_szGroup.f ((rd_T75 x0 x5).f0.f0) ((rd_T75 x0 x5).f1) ((rd_T75 x0 x5).f2) x1).bind fun t102 => (if t102 < 0 then (some (-1)) else (laws_szGroupS.l0 k x0 t102 (wrap64 (x5 + 1))))) else (none)) else (some x1)
def laws_szGroupS.f (k : Nat) (l0 : List (S75)) (a1 : Int) : Option (Int) := if (wrap64 (a1 - (l0.length : Int))) < 0 then (some (-1)) else (laws_szGroupS.l0 k l0 (wrap64 (a1 - (l0.length : Int))) 0)
set_option maxHeartbeats 8000000 in
set_option maxRecDepth 100000 in
theorem laws_szGroupS.calls (k : Nat) (A0 : Option Addr) (c0 : Nat) (l0 : List (S75)) (a1 : Int) (r : Int) (w : World) (hr0 : Kd.C k75 w A0 l0.length l0) (hc0 : l0.length ≤ c0) (h : laws_szGroupS.f k l0 a1 = some r) :
  Calls Try.prog 6 #[.slice A0 l0.length c0, .int .i64 a1] w fun e w' => e = .returned (.int .i64 r) ∧ Below w.heap.size w w' := by
 have hu75 := Try.underlying75
 have HR0 := Aside0.mk hr0
 have HC0 := Aside0.mk hc0
 clear hr0 hc0
 have HB := Aside0.mk (Below.refl w.heap.size w)
 have H : (if (wrap64 (a1 - (l0.length : Int))) < 0 then (some (-1)) else (laws_szGroupS.l0 k l0 (wrap64 (a1 - (l0.length : Int))) 0)) = some r := h
 clear h
 by_cases c3 : (wrap64 (a1 - (l0.length : Int))) < 0
 ·rw [if_pos c3] at H
  have c3b0 : decide ((wrap64 (a1 - (l0.length : Int))) < 0) = true := decide_eq_true c3
  clear c3
  obtain rfl := Option.some.inj H
  go_enter Try.func6, Try.ntmps6
  go_wp2
  go_ret
  exact ⟨by first | rfl | (simp [errW_none, errW_some] <;> rfl) | (simp [*, errW_none, errW_some] <;> rfl), by repeat (first | (with_reducible first | exact HB.out | apply below_alloc | apply pw_below_drewN | apply below_drew1) | exact HB.out)⟩
 ·rw [if_neg c3] at H
  have c3b0 : decide ((wrap64 (a1 - (l0.length : Int))) < 0) = false := decide_eq_false c3
  clear c3
  have H' := Aside0.mk H
  clear H
  go_enter Try.func6, Try.ntmps6
  go_wp2
  go_loopg [1, 5] k (fun kq v1 v5 w' => ∃ (x1_1 : Int) (x5_1 : Int), v1 = .int .i64 x1_1 ∧ v5 = .int .i64 x5_1 ∧ Aside0 (laws_szGroupS.l0 kq l0 x1_1 x5_1 = some r) ∧ Aside0 (kq ≤ k) ∧ Aside0 (Below w.heap.size w w'))
  case atStart => exact ⟨(wrap64 (a1 - (l0.length : Int))), (0), (by first | rfl | (simp; done) | (simp [*]; done)), (by first | rfl | (simp; done) | (simp [*]; done)), H', ⟨Nat.le_refl _⟩, ⟨by repeat (first | (with_reducible first | exact HB.out | apply below_alloc | apply pw_below_drewN | apply below_drew1) | exact HB.out)⟩⟩
  case round =>
   clear H'
   try clear p2
   try clear c3
   try clear c3b0
   obtain ⟨x1_1, x5_1, rfl, rfl, HA, HK1, HB⟩ := hrel
   cases gk with
   | zero => exact absurd HA.out (by simp [laws_szGroupS.l0])
   | succ k1 =>
    have H := HA.out
    clear HA
    simp only [laws_szGroupS.l0] at H
    by_cases c4 : x5_1 < (l0.length : Int)
    ·rw [if_pos c4] at H
     have c4b0 : decide (x5_1 < (l0.length : Int)) = true := decide_eq_true c4
     clear c4
     by_cases c5 : 0 ≤ x5_1
     ·rw [if_pos c5] at H
      have c5b0 : decide (0 ≤ x5_1) = true := decide_eq_true c5
      clear c5
      replace H := Option.bind_eq_some_iff.mp H
      obtain ⟨t102, A60, H⟩ := H
      replace H : (if t102 < 0 then (some (-1)) else (laws_szGroupS.l0 k1 l0 t102 (wrap64 (x5_1 + 1)))) = some r := H
      have A6 := Aside0.mk A60
      clear A60
      by_cases c7 : t102 < 0
      ·rw [if_pos c7] at H
       have c7b0 : decide (t102 < 0) = true := decide_eq_true c7
       clear c7
       obtain rfl := Option.some.inj H
       have p101 : 0 ≤ (x5_1 : Int) := of_decide_eq_true (by first | (with_reducible assumption) | assumption)
       have q101 : x5_1 < (l0.length : Int) := of_decide_eq_true (by first | (with_reducible assumption) | assumption)
       obtain ⟨ad101, A101_0, c101_0, e101, hx101_0, hx101_1, hx101_2, hl101_0, hi101_0⟩ := at_T75 HR0.out x5_1 p101 q101
       cases e101
       replace hx101_0 := (HB.out.cell (World.block_lt_of_cell? w _ hx101_0)).trans hx101_0
       replace hx101_1 := (HB.out.cell (World.block_lt_of_cell? w _ hx101_1)).trans hx101_1
       replace hx101_2 := (HB.out.cell (World.block_lt_of_cell? w _ hx101_2)).trans hx101_2
       have HR101_0 := Aside0.mk hi101_0
       have HC101_0 := Aside0.mk hl101_0
       clear hi101_0 hl101_0
       replace p101 := eq_true p101
       replace q101 := eq_true q101
       go_wp2_with (first | ((with_reducible refine gate_callee (f := 37) rfl ?_); refine goesL_ (some 23) rfl rfl Try.func37 (by kernel_rfl) rfl #[.agg #[.slice A101_0 ((rd_T75 l0 x5_1).f0.f0).length c101_0, .int .i64 ((rd_T75 l0 x5_1).f1), .int .i64 ((rd_T75 l0 x5_1).f2)], .int .i64 x1_1] rfl (by (try simp only [List.map_toArray, List.map_cons, List.map_nil]); first | done | rfl | (simp only [List.length_drop, List.length_take]; rfl)) ?_; (with_reducible refine (laws_szGroup.calls _ _ ((rd_T75 l0 x5_1).f0.f0) ((rd_T75 l0 x5_1).f1) ((rd_T75 l0 x5_1).f2) x1_1 t102 _ ?side1 ?side2 A6.out).mono ?_); (case side1 => repeat (first | exact (Kd.C_below HR101_0.out HB.out) | (with_reducible refine Kd.C_alloc ?_ _) | (with_reducible refine Kd.C_drewN ?_ _) | (with_reducible refine Kd.C_drew ?_))); (case side2 => exact HC101_0.out); rintro e w8 ⟨rfl, hb⟩; refine ⟨_, rfl, ?_⟩; have n0_ := Aside0.mk (below_step (by repeat (first | (with_reducible first | exact HB.out | apply below_alloc | apply pw_below_drewN | apply below_drew1) | exact HB.out)) hb); clear HB; have HB := n0_; clear n0_; (try clear hb); (try clear hb2); (try clear hk); (try clear hi)))
       go_ret
       exact ⟨by first | rfl | (simp [errW_none, errW_some] <;> rfl) | (simp [*, errW_none, errW_some] <;> rfl), by repeat (first | (with_reducible first | exact HB.out | apply below_alloc | apply pw_below_drewN | apply below_drew1) | exact HB.out)⟩
      ·rw [if_neg c7] at H
       have c7b0 : decide (t102 < 0) = false := decide_eq_false c7
       clear c7
       have H' := Aside0.mk H
       clear H
       have p101 : 0 ≤ (x5_1 : Int) := of_decide_eq_true (by first | (with_reducible assumption) | assumption)
       have q101 : x5_1 < (l0.length : Int) := of_decide_eq_true (by first | (with_reducible assumption) | assumption)
       obtain ⟨ad101, A101_0, c101_0, e101, hx101_0, hx101_1, hx101_2, hl101_0, hi101_0⟩ := at_T75 HR0.out x5_1 p101 q101
       cases e101
       replace hx101_0 := (HB.out.cell (World.block_lt_of_cell? w _ hx101_0)).trans hx101_0
       replace hx101_1 := (HB.out.cell (World.block_lt_of_cell? w _ hx101_1)).trans hx101_1
       replace hx101_2 := (HB.out.cell (World.block_lt_of_cell? w _ hx101_2)).trans hx101_2
       have HR101_0 := Aside0.mk hi101_0
       have HC101_0 := Aside0.mk hl101_0
       clear hi101_0 hl101_0
       replace p101 := eq_true p101
       replace q101 := eq_true q101
       go_wp2_with (first | ((with_reducible refine gate_callee (f := 37) rfl ?_); refine goesL_ (some 23) rfl rfl Try.func37 (by kernel_rfl) rfl #[.agg #[.slice A101_0 ((rd_T75 l0 x5_1).f0.f0).length c101_0, .int .i64 ((rd_T75 l0 x5_1).f1), .int .i64 ((rd_T75 l0 x5_1).f2)], .int .i64 x1_1] rfl (by (try simp only [List.map_toArray, List.map_cons, List.map_nil]); first | done | rfl | (simp only [List.length_drop, List.length_take]; rfl)) ?_; (with_reducible refine (laws_szGroup.calls _ _ ((rd_T75 l0 x5_1).f0.f0) ((rd_T75 l0 x5_1).f1) ((rd_T75 l0 x5_1).f2) x1_1 t102 _ ?side1 ?side2 A6.out).mono ?_); (case side1 => repeat (first | exact (Kd.C_below HR101_0.out HB.out) | (with_reducible refine Kd.C_alloc ?_ _) | (with_reducible refine Kd.C_drewN ?_ _) | (with_reducible refine Kd.C_drew ?_))); (case side2 => exact HC101_0.out); rintro e w9 ⟨rfl, hb⟩; refine ⟨_, rfl, ?_⟩; have n0_ := Aside0.mk (below_step (by repeat (first | (with_reducible first | exact HB.out | apply below_alloc | apply pw_below_drewN | apply below_drew1) | exact HB.out)) hb); clear HB; have HB := n0_; clear n0_; (try clear hb); (try clear hb2); (try clear hk); (try clear hi)))
       go_roundg k1
       case measure => have := HK1.out; omega
       case rel => exact ⟨(t102), (wrap64 (x5_1 + 1)), (by first | rfl | (simp; done) | (simp [*]; done)), (by first | rfl | (simp; done) | (simp [*]; done)), H', ⟨by have := HK1.out; omega⟩, ⟨by repeat (first | (with_reducible first | exact HB.out | apply below_alloc | apply pw_below_drewN | apply below_drew1) | exact HB.out)⟩⟩
     ·rw [if_neg c5] at H
      exact absurd H (by simp)
    ·rw [if_neg c4] at H
     have c4b0 : decide (x5_1 < (l0.length : Int)) = false := decide_eq_false c4
     clear c4
     obtain rfl := Option.some.inj H
     go_wp2
     go_ret
     exact ⟨by first | rfl | (simp [errW_none, errW_some] <;> rfl) | (simp [*, errW_none, errW_some] <;> rfl), by repeat (first | (with_reducible first | exact HB.out | apply below_alloc | apply pw_below_drewN | apply below_drew1) | exact HB.out)⟩

end Go.Proofs.Ytbnmkikifjidjaa.Q
end
section
/- Contracts of a function, printed for this claim by a program of ours over the kit's print. -/
namespace Go.Proofs.Ytbnmkikifjidjaa.Q
open Go.RowKit Go.Proofs.YtbnmkikifjidjaaW.PrintWords Go.Proofs.YtbnmkikifjidjaaW.PrintLast Go.Proofs.YtbnmkikifjidjaaW.PrintMore
attribute [local go_sem] max2_int min2_int max_two min_two max_three min_three max_four min_four   -- for this text's walks alone
set_option linter.unusedVariables false
set_option linter.unusedSimpArgs false

/-! ### laws_toIntS: function 43 -/
def laws_toIntS.l0 : Nat → List Int → List Int → Int → Option (List Int)
 | 0, _, _, _ => none
 | k + 1, x0, x3, x4 => if x4 < (x0.length : Int) then (if 0 ≤ x4 then (if x4 < (x3.length : Int) then (laws_toIntS.l0 k x0 (x3.set (x4 : Int).toNat (rd x0 x4)) (wrap64 (x4 + 1))) else (none)) else (none)) else (some x3)
def laws_toIntS.f (k : Nat) (l0 : List Int) : Option (List Int) := if 0 ≤ (l0.length : Int) then (if ((l0.length : Int) : Int).toNat ≤ 35184372088832 then (laws_toIntS.l0 k l0 (List.replicate ((l0.length : Int) : Int).toNat 0) 0) else (none)) else (none)
set_option maxHeartbeats 8000000 in
set_option maxRecDepth 100000 in
theorem laws_toIntS.calls (k : Nat) (A0 : Option Addr) (c0 : Nat) (l0 : List Int) (r : List Int) (w : World) (hr0 : Kd.C (Kd.int .i64) w A0 l0.length l0) (hc0 : l0.length ≤ c0) (h : laws_toIntS.f k l0 = some r) :
  Calls Try.prog 43 #[.slice A0 l0.length c0] w fun e w' => ∃ v0_ : Value, e = .returned (v0_) ∧ Kd.R (Kd.int .i64) 3 w' w.heap.size (fun _ => True) v0_ r ∧ Below w.heap.size w w' := by
 have HR0 := Aside0.mk hr0
 have HC0 := Aside0.mk hc0
 clear hr0 hc0
 have HB := Aside0.mk (Below.refl w.heap.size w)
 have H : (if 0 ≤ (l0.length : Int) then (if ((l0.length : Int) : Int).toNat ≤ 35184372088832 then (laws_toIntS.l0 k l0 (List.replicate ((l0.length : Int) : Int).toNat 0) 0) else (none)) else (none)) = some r := h
 clear h
 by_cases c2 : 0 ≤ (l0.length : Int)
 ·rw [if_pos c2] at H
  have c2b0 := eq_true c2
  have c2b1 : decide (0 ≤ (l0.length : Int)) = true := decide_eq_true c2
  clear c2
  by_cases c3 : ((l0.length : Int) : Int).toNat ≤ 35184372088832
  ·rw [if_pos c3] at H
   have c3b0 := eq_true c3
   have c3b1 : decide (((l0.length : Int) : Int).toNat ≤ 35184372088832) = true := decide_eq_true c3
   clear c3
   obtain ⟨y101, hy101⟩ : ∃ y_ : List Int, y_ = (List.replicate ((l0.length : Int) : Int).toNat 0) := ⟨_, rfl⟩
   replace H : (laws_toIntS.l0 k l0 y101 0) = some r := by first | (rw [hy101]; with_reducible exact H) | (have H2_ := (Option.bind_some _ _).symm.trans H; rw [hy101]; with_reducible exact H2_) | (have H2_ := (Option.bind_some _ _).symm.trans H; with_reducible exact H2_) | with_reducible exact H | (rw [hy101]; exact H) | exact H
   have Ny101 := Aside0.mk hy101
   clear hy101
   have H' := Aside0.mk H
   clear H
   go_enter Try.func43, Try.ntmps43
   go_wp2_with (first | ((with_reducible refine gate_dst (N := 7) rfl ?_); refine Kd.R_make (Kd.int .i64) _ 3 rfl (N := 7) rfl 23 _ _ rfl (l0.length : Int) rfl rfl Try.underlying23 (.int .i64 0) 8 info3 rfl (by decide) (by omega) 0 (ok := fun _ => True) (okp := fun _ => True) rfl (fun _ hk => hk) trivial (of_decide_eq_true (by first | (with_reducible assumption) | assumption)) (Nat.le_trans (Nat.mul_le_mul_right _ (of_decide_eq_true (by first | (with_reducible assumption) | assumption) : (l0.length : Int).toNat ≤ 35184372088832)) (by omega)) (Below.refl _ _) (Nat.le_refl _) ?_; intro v102 w4 ho5 hb hg_ hnew_; clear hg_ hnew_; (first | rw [← Ny101.out] at ho5 | (simp only [Int.reduceToNat] at ho5; rw [← Ny101.out] at ho5)); have n0_ := Aside0.mk (Kd.R_lower ho5 (below_size (by repeat (first | (with_reducible first | exact HB.out | apply below_alloc | apply pw_below_drewN | apply below_drew1) | exact HB.out)))); have n1_ := Aside0.mk (below_step (by repeat (first | (with_reducible first | exact HB.out | apply below_alloc | apply pw_below_drewN | apply below_drew1) | exact HB.out)) hb); clear HB; have HO103 := n0_; have HB := n1_; clear n0_ n1_; clear hb ho5))
   go_loopg [4] k (fun kq v4 w' => ∃ (x3_1 : List Int) (x4_1 : Int), v4 = .int .i64 x4_1 ∧ Aside0 (laws_toIntS.l0 kq l0 x3_1 x4_1 = some r) ∧ Aside0 (kq ≤ k) ∧ Aside0 (Kd.R (Kd.int .i64) 3 w' w.heap.size (fun _ => True) v102 x3_1) ∧ Aside0 (Below w.heap.size w w'))
   case atStart => exact ⟨(y101), (0), (by first | rfl | (simp; done) | (simp [*]; done)), H', ⟨Nat.le_refl _⟩, ⟨by (with_reducible repeat (first | apply Kd.R_alloc | apply Kd.R_drewN | apply Kd.R_drew)); exact HO103.out⟩, ⟨by repeat (first | (with_reducible first | exact HB.out | apply below_alloc | apply pw_below_drewN | apply below_drew1) | exact HB.out)⟩⟩
   case round =>
    clear H'
    try clear c2
    try clear c2b0
    try clear c2b1
    try clear p2
    try clear c3
    try clear c3b0
    try clear c3b1
    try clear c4
    obtain ⟨x3_1, x4_1, rfl, HA, HK1, HO_3, HB⟩ := hrel
    cases gk with
    | zero => exact absurd HA.out (by simp [laws_toIntS.l0])
    | succ k1 =>
     have H := HA.out
     clear HA
     simp only [laws_toIntS.l0] at H
     by_cases c6 : x4_1 < (l0.length : Int)
     ·rw [if_pos c6] at H
      have c6b0 : decide (x4_1 < (l0.length : Int)) = true := decide_eq_true c6
      clear c6
      by_cases c7 : 0 ≤ x4_1
      ·rw [if_pos c7] at H
       have c7b0 : decide (0 ≤ x4_1) = true := decide_eq_true c7
       clear c7
       by_cases c8 : x4_1 < (x3_1.length : Int)
       ·rw [if_pos c8] at H
        have c8b0 : decide (x4_1 < (x3_1.length : Int)) = true := decide_eq_true c8
        clear c8
        obtain ⟨y105, hy105⟩ : ∃ y_ : List Int, y_ = (x3_1.set (x4_1 : Int).toNat (rd l0 x4_1)) := ⟨_, rfl⟩
        replace H : (laws_toIntS.l0 k1 l0 y105 (wrap64 (x4_1 + 1))) = some r := by first | (rw [hy105]; with_reducible exact H) | (have H2_ := (Option.bind_some _ _).symm.trans H; rw [hy105]; with_reducible exact H2_) | (have H2_ := (Option.bind_some _ _).symm.trans H; with_reducible exact H2_) | with_reducible exact H | (rw [hy105]; exact H) | exact H
        have Ny105 := Aside0.mk hy105
        clear hy105
        have H' := Aside0.mk H
        clear H
        have p104 : 0 ≤ (x4_1 : Int) := of_decide_eq_true (by first | (with_reducible assumption) | assumption)
        have q104 : x4_1 < (l0.length : Int) := of_decide_eq_true (by first | (with_reducible assumption) | assumption)
        obtain ⟨ad104, e104, hx104_0⟩ := Kd.at_int HR0.out x4_1 p104 q104
        cases e104
        replace hx104_0 := (HB.out.cell (World.block_lt_of_cell? w _ hx104_0)).trans hx104_0
        replace p104 := eq_true p104
        replace q104 := eq_true q104
        have p9 : 0 ≤ (x4_1 : Int) := of_decide_eq_true (by first | (with_reducible assumption) | assumption)
        have q9 : (x4_1 : Int) < ((x3_1.length : Int) : Int) := of_decide_eq_true (by first | (with_reducible assumption) | assumption)
        obtain ⟨go9, co9, eo9, gb9, gl9, cl9, HG9⟩ := Kd.R_form HO_3.out (by omega)
        (first | cases eo9 | (injection eo9 with ea_ en_ ec_; (first | subst ea_ | (injection ea_ with ea_; subst ea_)); subst ec_; clear en_))
        have GB9 := Aside0.mk gb9
        have GG9 := Aside0.mk HG9
        clear gb9 gl9 HG9
        obtain ⟨hx9_0, hf9_0⟩ := Kd.R_celln 0 HO_3.out (x4_1 : Int) p9 q9
        replace p9 := eq_true p9
        replace q9 := eq_true q9
        have HP10 := Kd.R_putg HO_3.out (x4_1 : Int) (rd l0 x4_1)
        go_wp2_with (first | ((with_reducible refine gate_store (t := 3) (p := 20) rfl ?_); refine store_event (t := 3) (p := 20) (v := ?vo_w11) (w1 := (wr.setCell ⟨go9, (x4_1 : Int).toNat, none⟩ (.int .i64 (rd l0 x4_1)))) ?hg ?ho ?hn ?hr ?_; (case ho => rfl); (case hg => rfl); (case hn => rfl); (case hr => first | (go_simp; done) | (go_simp; rfl)); intro w11 hw; have hg : wr.grownBy w11 (some go9) := (by rw [hw]; exact HP10.2); have hp_ : Kd.R (Kd.int .i64) 3 w11 w.heap.size (fun _ => True) (.slice (some ⟨go9, 0, none⟩) x3_1.length co9) y105 := (by rw [hw, Ny105.out]; exact HP10.1); clear HP10; have n0_ := Aside0.mk (hp_); have n1_ := Aside0.mk ((by rw [hw]; exact below_set (HB.out) GB9.out : Below w.heap.size w w11)); clear HO_3; clear HB; have HO_3 := n0_; have HB := n1_; clear n0_ n1_; clear hg hw hp_))
        go_roundg k1
        case measure => have := HK1.out; omega
        case rel => exact ⟨(y105), (wrap64 (x4_1 + 1)), (by first | rfl | (simp; done) | (simp [*]; done)), H', ⟨by have := HK1.out; omega⟩, ⟨by (with_reducible repeat (first | apply Kd.R_alloc | apply Kd.R_drewN | apply Kd.R_drew)); exact HO_3.out⟩, ⟨by repeat (first | (with_reducible first | exact HB.out | apply below_alloc | apply pw_below_drewN | apply below_drew1) | exact HB.out)⟩⟩
       ·rw [if_neg c8] at H
        exact absurd H (by simp)
      ·rw [if_neg c7] at H
       exact absurd H (by simp)
     ·rw [if_neg c6] at H
      have c6b0 : decide (x4_1 < (l0.length : Int)) = false := decide_eq_false c6
      clear c6
      obtain rfl := Option.some.inj H
      go_wp2
      go_ret
      exact ⟨_, by first | rfl | (simp [errW_none, errW_some] <;> rfl) | (simp [*, errW_none, errW_some] <;> rfl), by (with_reducible repeat (first | apply Kd.R_alloc | apply Kd.R_drewN | apply Kd.R_drew)); exact HO_3.out, by repeat (first | (with_reducible first | exact HB.out | apply below_alloc | apply pw_below_drewN | apply below_drew1) | exact HB.out)⟩
  ·rw [if_neg c3] at H
   exact absurd H (by simp)
 ·rw [if_neg c2] at H
  exact absurd H (by simp)

end Go.Proofs.Ytbnmkikifjidjaa.Q
end
section
/- Contracts of a function, printed for this claim by a program of ours over the kit's print. -/
namespace Go.Proofs.Ytbnmkikifjidjaa.Q
open Go.RowKit Go.Proofs.YtbnmkikifjidjaaW.PrintWords Go.Proofs.YtbnmkikifjidjaaW.PrintLast Go.Proofs.YtbnmkikifjidjaaW.PrintMore
attribute [local go_sem] max2_int min2_int max_two min_two max_three min_three max_four min_four   -- for this text's walks alone
set_option linter.unusedVariables false
set_option linter.unusedSimpArgs false

/-! ### laws_toRow: function 10 -/
def laws_toRow.f (k : Nat) (l0_0 : List Int) : Option (List Int) := (laws_toIntS.f k l0_0).bind fun t104 => (some t104)
set_option maxHeartbeats 8000000 in
set_option maxRecDepth 100000 in
theorem laws_toRow.calls (k : Nat) (A0_0 : Option Addr) (c0_0 : Nat) (l0_0 : List Int) (r : List Int) (w : World) (hr0_0 : Kd.C (Kd.int .i64) w A0_0 l0_0.length l0_0) (hc0_0 : l0_0.length ≤ c0_0) (h : laws_toRow.f k l0_0 = some r) :
  Calls Try.prog 10 #[.agg #[.slice A0_0 l0_0.length c0_0]] w fun e w' => ∃ v0_ : Value, e = .returned (.agg #[v0_]) ∧ Kd.R (Kd.int .i64) 3 w' w.heap.size (fun _ => True) v0_ r ∧ Below w.heap.size w w' := by
 have hu25 := Try.underlying25
 have hu28 := Try.underlying28
 have HR0_0 := Aside0.mk hr0_0
 have HC0_0 := Aside0.mk hc0_0
 clear hr0_0 hc0_0
 have HB := Aside0.mk (Below.refl w.heap.size w)
 have H : ((laws_toIntS.f k l0_0).bind fun t104 => (some t104)) = some r := h
 clear h
 replace H := Option.bind_eq_some_iff.mp H
 obtain ⟨t104, A20, H⟩ := H
 replace H : (some t104) = some r := H
 have A2 := Aside0.mk A20
 clear A20
 obtain rfl := Option.some.inj H
 go_enter Try.func10, Try.ntmps10
 go_wp2_with (first | ((with_reducible refine gate_dst (N := 1) rfl ?_); refine box_event ?hg (N := 1) ?hd (cs := #[.slice A0_0 l0_0.length c0_0]) (t := 25) ?hr ?_; (case hd => rfl); (case hg => rfl); (case hr => first | (go_simp; done) | (go_simp; rfl)); intro gb101 hg w3 hbox hb; have n0_ := Aside0.mk (below_step (by repeat (first | (with_reducible first | exact HB.out | apply below_alloc | apply pw_below_drewN | apply below_drew1) | exact HB.out)) hb); have n1_ := Aside0.mk (hbox); have n2_ := Aside0.mk ((by rw [hg]; exact (below_size (by repeat (first | (with_reducible first | exact HB.out | apply below_alloc | apply pw_below_drewN | apply below_drew1) | exact HB.out))) : w.heap.size ≤ gb101)); have n3_ := Aside0.mk ((by rw [hg]; exact (below_size (by repeat (first | (with_reducible first | exact HB.out | apply below_alloc | apply pw_below_drewN | apply below_drew1) | exact HB.out))) : w.heap.size ≤ gb101)); clear HB; have HB := n0_; have BK101 := n1_; have GW101 := n2_; have GE101 := n3_; clear n0_ n1_ n2_ n3_; clear hb hbox hg) | ((with_reducible refine gate_dst (N := 2) rfl ?_); refine box_event ?hg (N := 2) ?hd (cs := #[.slice none 0 0]) (t := 28) ?hr ?_; (case hd => rfl); (case hg => rfl); (case hr => first | (go_simp; done) | (go_simp; rfl)); intro gb102 hg w4 hbox hb; have n0_ := Aside0.mk (blk_below (g := gb101) (o := .cells #[.slice A0_0 l0_0.length c0_0] 25 (0, 0)) (by (with_reducible repeat (first | refine blk_drewN ?_ _ | refine blk_drew ?_ | refine blk_alloc ?_ _)); exact BK101.out) hb); have n1_ := Aside0.mk (below_step (by repeat (first | (with_reducible first | exact HB.out | apply below_alloc | apply pw_below_drewN | apply below_drew1 | refine below_set ?_ GE101.out) | exact HB.out)) hb); have n2_ := Aside0.mk (hbox); have n3_ := Aside0.mk ((by rw [hg]; exact (below_size (by repeat (first | (with_reducible first | exact HB.out | apply below_alloc | apply pw_below_drewN | apply below_drew1 | refine below_set ?_ GE101.out) | exact HB.out))) : w.heap.size ≤ gb102)); have n4_ := Aside0.mk ((by rw [hg]; exact (below_size (by repeat (first | (with_reducible first | exact HB.out | apply below_alloc | apply pw_below_drewN | apply below_drew1 | refine below_set ?_ GE101.out) | exact HB.out))) : w.heap.size ≤ gb102)); have n5_ := Aside0.mk ((by rw [hg]; exact Nat.ne_of_lt (blk_lt (g := gb101) (o := .cells #[.slice A0_0 l0_0.length c0_0] 25 (0, 0)) (by (with_reducible repeat (first | refine blk_drewN ?_ _ | refine blk_drew ?_ | refine blk_alloc ?_ _)); exact BK101.out)) : gb101 ≠ gb102)); have n6_ := Aside0.mk ((by rw [hg]; exact Nat.ne_of_gt (blk_lt (g := gb101) (o := .cells #[.slice A0_0 l0_0.length c0_0] 25 (0, 0)) (by (with_reducible repeat (first | refine blk_drewN ?_ _ | refine blk_drew ?_ | refine blk_alloc ?_ _)); exact BK101.out)) : gb102 ≠ gb101)); clear BK101; clear HB; have BK101 := n0_; have HB := n1_; have BK102 := n2_; have GW102 := n3_; have GE102 := n4_; have NB101_102 := n5_; have NB102_101 := n6_; clear n0_ n1_ n2_ n3_ n4_ n5_ n6_; clear hb hbox hg) | ((with_reducible refine gate_dst (N := 3) rfl ?_); refine box_event ?hg (N := 3) ?hd (cs := #[.slice none 0 0]) (t := 28) ?hr ?_; (case hd => rfl); (case hg => rfl); (case hr => first | (go_simp; done) | (go_simp; rfl)); intro gb103 hg w5 hbox hb; have n0_ := Aside0.mk (blk_below (g := gb101) (o := .cells #[.slice A0_0 l0_0.length c0_0] 25 (0, 0)) (by (with_reducible repeat (first | refine blk_drewN ?_ _ | refine blk_drew ?_ | refine blk_alloc ?_ _)); exact BK101.out) hb); have n1_ := Aside0.mk (blk_below (g := gb102) (o := .cells #[.slice none 0 0] 28 (0, 0)) (by (with_reducible repeat (first | refine blk_drewN ?_ _ | refine blk_drew ?_ | refine blk_alloc ?_ _)); exact BK102.out) hb); have n2_ := Aside0.mk (below_step (by repeat (first | (with_reducible first | exact HB.out | apply below_alloc | apply pw_below_drewN | apply below_drew1 | refine below_set ?_ GE101.out | refine below_set ?_ GE102.out) | exact HB.out)) hb); have n3_ := Aside0.mk (hbox); have n4_ := Aside0.mk ((by rw [hg]; exact (below_size (by repeat (first | (with_reducible first | exact HB.out | apply below_alloc | apply pw_below_drewN | apply below_drew1 | refine below_set ?_ GE101.out | refine below_set ?_ GE102.out) | exact HB.out))) : w.heap.size ≤ gb103)); have n5_ := Aside0.mk ((by rw [hg]; exact (below_size (by repeat (first | (with_reducible first | exact HB.out | apply below_alloc | apply pw_below_drewN | apply below_drew1 | refine below_set ?_ GE101.out | refine below_set ?_ GE102.out) | exact HB.out))) : w.heap.size ≤ gb103)); have n6_ := Aside0.mk ((by rw [hg]; exact Nat.ne_of_lt (blk_lt (g := gb101) (o := .cells #[.slice A0_0 l0_0.length c0_0] 25 (0, 0)) (by (with_reducible repeat (first | refine blk_drewN ?_ _ | refine blk_drew ?_ | refine blk_alloc ?_ _)); exact BK101.out)) : gb101 ≠ gb103)); have n7_ := Aside0.mk ((by rw [hg]; exact Nat.ne_of_gt (blk_lt (g := gb101) (o := .cells #[.slice A0_0 l0_0.length c0_0] 25 (0, 0)) (by (with_reducible repeat (first | refine blk_drewN ?_ _ | refine blk_drew ?_ | refine blk_alloc ?_ _)); exact BK101.out)) : gb103 ≠ gb101)); have n8_ := Aside0.mk ((by rw [hg]; exact Nat.ne_of_lt (blk_lt (g := gb102) (o := .cells #[.slice none 0 0] 28 (0, 0)) (by (with_reducible repeat (first | refine blk_drewN ?_ _ | refine blk_drew ?_ | refine blk_alloc ?_ _)); exact BK102.out)) : gb102 ≠ gb103)); have n9_ := Aside0.mk ((by rw [hg]; exact Nat.ne_of_gt (blk_lt (g := gb102) (o := .cells #[.slice none 0 0] 28 (0, 0)) (by (with_reducible repeat (first | refine blk_drewN ?_ _ | refine blk_drew ?_ | refine blk_alloc ?_ _)); exact BK102.out)) : gb103 ≠ gb102)); clear BK101; clear BK102; clear HB; have BK101 := n0_; have BK102 := n1_; have HB := n2_; have BK103 := n3_; have GW103 := n4_; have GE103 := n5_; have NB101_103 := n6_; have NB103_101 := n7_; have NB102_103 := n8_; have NB103_102 := n9_; clear n0_ n1_ n2_ n3_ n4_ n5_ n6_ n7_ n8_ n9_; clear hb hbox hg; have hnb6 := NB101_102.out; have hnc6 := NB102_101.out; have hnb7 := NB101_103.out; have hnc7 := NB103_101.out; have hcz8_0 : w5.cell? ⟨gb101, 0, none⟩ = some (.slice A0_0 l0_0.length c0_0) := (blk_cell BK101.out 0).trans rfl; have hfz8_0 := blk_frozen BK101.out 0) | ((with_reducible refine gate_callee (f := 43) rfl ?_); refine goesL_ (some 6) rfl rfl Try.func43 (by kernel_rfl) rfl #[.slice A0_0 l0_0.length c0_0] rfl (by (try simp only [List.map_toArray, List.map_cons, List.map_nil]); first | done | rfl | (simp only [List.length_drop, List.length_take]; rfl)) ?_; (with_reducible refine (laws_toIntS.calls k _ _ l0_0 t104 _ ?side1 ?side2 A2.out).mono ?_); (case side1 => repeat (first | exact (Kd.C_below HR0_0.out HB.out) | (with_reducible refine Kd.C_alloc ?_ _) | (with_reducible refine Kd.C_drewN ?_ _) | (with_reducible refine Kd.C_drew ?_))); (case side2 => exact HC0_0.out); rintro e w9 ⟨v105, rfl, ho0, hb⟩; refine ⟨_, rfl, ?_⟩; have n0_ := Aside0.mk (Kd.R_lower ho0 (below_size (by repeat (first | (with_reducible first | exact HB.out | apply below_alloc | apply pw_below_drewN | apply below_drew1 | refine below_set ?_ GE101.out | refine below_set ?_ GE102.out | refine below_set ?_ GE103.out) | exact HB.out)))); have n1_ := Aside0.mk (blk_below (g := gb101) (o := .cells #[.slice A0_0 l0_0.length c0_0] 25 (0, 0)) (by (with_reducible repeat (first | refine blk_drewN ?_ _ | refine blk_drew ?_ | refine blk_alloc ?_ _)); exact BK101.out) hb); have n2_ := Aside0.mk (blk_below (g := gb102) (o := .cells #[.slice none 0 0] 28 (0, 0)) (by (with_reducible repeat (first | refine blk_drewN ?_ _ | refine blk_drew ?_ | refine blk_alloc ?_ _)); exact BK102.out) hb); have n3_ := Aside0.mk (blk_below (g := gb103) (o := .cells #[.slice none 0 0] 28 (0, 0)) (by (with_reducible repeat (first | refine blk_drewN ?_ _ | refine blk_drew ?_ | refine blk_alloc ?_ _)); exact BK103.out) hb); have n4_ := Aside0.mk (below_step (by repeat (first | (with_reducible first | exact HB.out | apply below_alloc | apply pw_below_drewN | apply below_drew1 | refine below_set ?_ GE101.out | refine below_set ?_ GE102.out | refine below_set ?_ GE103.out) | exact HB.out)) hb); clear BK101; clear BK102; clear BK103; clear HB; have HO106 := n0_; have BK101 := n1_; have BK102 := n2_; have BK103 := n3_; have HB := n4_; clear n0_ n1_ n2_ n3_ n4_; (try clear hb); (try clear hb2); (try clear hk); (try clear hi); (try clear ho0); obtain ⟨Ao10, co10, eo10⟩ := Kd.R_slice HO106.out; subst eo10; have hnb11 := NB103_102.out; have hnc11 := NB102_103.out; have hcz12_0 : w9.cell? ⟨gb103, 0, none⟩ = some (.slice none 0 0) := (blk_cell BK103.out 0).trans rfl; have hfz12_0 := blk_frozen BK103.out 0; have hcz13_0 : w9.cell? ⟨gb102, 0, none⟩ = some (.slice none 0 0) := (blk_cell BK102.out 0).trans rfl; have hfz13_0 := blk_frozen BK102.out 0))
 refine bodyPost_ret (results_cell_row rfl _ _ gb102 28 #[.slice Ao10 t104.length co10] (0, 0) _ rfl (by (with_reducible repeat (first | refine blk_drewN ?_ _ | refine blk_drew ?_ | refine blk_alloc ?_ _)); refine blk_put (cs := #[.slice none 0 0]) ?_ 0 _ rfl; (with_reducible repeat (first | refine blk_drewN ?_ _ | refine blk_drew ?_ | refine blk_alloc ?_ _)); refine blk_far ?_ NB102_103.out _; (with_reducible repeat (first | refine blk_drewN ?_ _ | refine blk_drew ?_ | refine blk_alloc ?_ _)); exact BK102.out) Try.underlying28 rfl (by kernel_rfl)) rfl ?_
 exact ⟨_, by first | rfl | (simp [errW_none, errW_some] <;> rfl) | (simp [*, errW_none, errW_some] <;> rfl), by (with_reducible repeat (first | apply Kd.R_alloc | apply Kd.R_drewN | apply Kd.R_drew)); exact Kd.R_mono (Kd.R_far (p := ⟨gb102, 0, none⟩) (Kd.R_far (p := ⟨gb103, 0, none⟩) (Kd.R_types (Kd.R_types HO106.out BK103.out (by decide)) BK102.out (by decide)) (fun _ hk => hk.1.2) (.slice Ao10 t104.length co10)) (fun _ hk => hk.2) (.slice Ao10 t104.length co10)) (fun _ hk => trivial), by repeat (first | (with_reducible first | exact HB.out | apply below_alloc | apply pw_below_drewN | apply below_drew1 | refine below_set ?_ GE101.out | refine below_set ?_ GE102.out | refine below_set ?_ GE103.out) | exact HB.out)⟩

end Go.Proofs.Ytbnmkikifjidjaa.Q
end
section
/- Contracts of a function, printed for this claim by a program of ours over the kit's print. -/
namespace Go.Proofs.Ytbnmkikifjidjaa.Q
open Go.RowKit Go.Proofs.YtbnmkikifjidjaaW.PrintWords Go.Proofs.YtbnmkikifjidjaaW.PrintLast Go.Proofs.YtbnmkikifjidjaaW.PrintMore
attribute [local go_sem] max2_int min2_int max_two min_two max_three min_three max_four min_four   -- for this text's walks alone
set_option linter.unusedVariables false
set_option linter.unusedSimpArgs false

/-! ### laws_toGroup: function 42 -/
def laws_toGroup.f (k : Nat) (l0_0 : List Int) (a0_1 : Int) (a0_2 : Int) : Option (List Int × Int × Int) := (laws_toRow.f k l0_0).bind fun t104 => (some (t104, a0_1, a0_2))
set_option maxHeartbeats 8000000 in
set_option maxRecDepth 100000 in
theorem laws_toGroup.calls (k : Nat) (A0_0 : Option Addr) (c0_0 : Nat) (l0_0 : List Int) (a0_1 : Int) (a0_2 : Int) (r1 : List Int) (r2 : Int) (r3 : Int) (w : World) (hr0_0 : Kd.C (Kd.int .i64) w A0_0 l0_0.length l0_0) (hc0_0 : l0_0.length ≤ c0_0) (h : laws_toGroup.f k l0_0 a0_1 a0_2 = some (r1, r2, r3)) :
  Calls Try.prog 42 #[.agg #[.slice A0_0 l0_0.length c0_0, .int .i64 a0_1, .int .i64 a0_2]] w fun e w' => ∃ v0_ : Value, e = .returned (.agg #[v0_, .int .i64 r2, .int .i64 r3]) ∧ Kd.R (Kd.int .i64) 3 w' w.heap.size (fun _ => True) v0_ r1 ∧ Below w.heap.size w w' := by
 have hu75 := Try.underlying75
 have hu30 := Try.underlying30
 have hu25 := Try.underlying25
 have hu28 := Try.underlying28
 have HR0_0 := Aside0.mk hr0_0
 have HC0_0 := Aside0.mk hc0_0
 clear hr0_0 hc0_0
 have HB := Aside0.mk (Below.refl w.heap.size w)
 have H : ((laws_toRow.f k l0_0).bind fun t104 => (some (t104, a0_1, a0_2))) = some (r1, r2, r3) := h
 clear h
 replace H := Option.bind_eq_some_iff.mp H
 obtain ⟨t104, A20, H⟩ := H
 replace H : (some (t104, a0_1, a0_2)) = some (r1, r2, r3) := H
 have A2 := Aside0.mk A20
 clear A20
 simp only [Option.some.injEq, Prod.mk.injEq] at H
 obtain ⟨rfl, rfl, rfl⟩ := H
 go_enter Try.func42, Try.ntmps42
 go_wp2_with (first | ((with_reducible refine gate_dst (N := 1) rfl ?_); refine box_event ?hg (N := 1) ?hd (cs := #[.slice A0_0 l0_0.length c0_0, .int .i64 a0_1, .int .i64 a0_2]) (t := 75) ?hr ?_; (case hd => rfl); (case hg => rfl); (case hr => first | (go_simp; done) | (go_simp; rfl)); intro gb101 hg w3 hbox hb; have n0_ := Aside0.mk (below_step (by repeat (first | (with_reducible first | exact HB.out | apply below_alloc | apply pw_below_drewN | apply below_drew1) | exact HB.out)) hb); have n1_ := Aside0.mk (hbox); have n2_ := Aside0.mk ((by rw [hg]; exact (below_size (by repeat (first | (with_reducible first | exact HB.out | apply below_alloc | apply pw_below_drewN | apply below_drew1) | exact HB.out))) : w.heap.size ≤ gb101)); have n3_ := Aside0.mk ((by rw [hg]; exact (below_size (by repeat (first | (with_reducible first | exact HB.out | apply below_alloc | apply pw_below_drewN | apply below_drew1) | exact HB.out))) : w.heap.size ≤ gb101)); clear HB; have HB := n0_; have BK101 := n1_; have GW101 := n2_; have GE101 := n3_; clear n0_ n1_ n2_ n3_; clear hb hbox hg) | ((with_reducible refine gate_dst (N := 2) rfl ?_); refine box_event ?hg (N := 2) ?hd (cs := #[.slice none 0 0, .int .i64 0, .int .i64 0]) (t := 30) ?hr ?_; (case hd => rfl); (case hg => rfl); (case hr => first | (go_simp; done) | (go_simp; rfl)); intro gb102 hg w4 hbox hb; have n0_ := Aside0.mk (blk_below (g := gb101) (o := .cells #[.slice A0_0 l0_0.length c0_0, .int .i64 a0_1, .int .i64 a0_2] 75 (0, 0)) (by (with_reducible repeat (first | refine blk_drewN ?_ _ | refine blk_drew ?_ | refine blk_alloc ?_ _)); exact BK101.out) hb); have n1_ := Aside0.mk (below_step (by repeat (first | (with_reducible first | exact HB.out | apply below_alloc | apply pw_below_drewN | apply below_drew1 | refine below_set ?_ GE101.out) | exact HB.out)) hb); have n2_ := Aside0.mk (hbox); have n3_ := Aside0.mk ((by rw [hg]; exact (below_size (by repeat (first | (with_reducible first | exact HB.out | apply below_alloc | apply pw_below_drewN | apply below_drew1 | refine below_set ?_ GE101.out) | exact HB.out))) : w.heap.size ≤ gb102)); have n4_ := Aside0.mk ((by rw [hg]; exact (below_size (by repeat (first | (with_reducible first | exact HB.out | apply below_alloc | apply pw_below_drewN | apply below_drew1 | refine below_set ?_ GE101.out) | exact HB.out))) : w.heap.size ≤ gb102)); have n5_ := Aside0.mk ((by rw [hg]; exact Nat.ne_of_lt (blk_lt (g := gb101) (o := .cells #[.slice A0_0 l0_0.length c0_0, .int .i64 a0_1, .int .i64 a0_2] 75 (0, 0)) (by (with_reducible repeat (first | refine blk_drewN ?_ _ | refine blk_drew ?_ | refine blk_alloc ?_ _)); exact BK101.out)) : gb101 ≠ gb102)); have n6_ := Aside0.mk ((by rw [hg]; exact Nat.ne_of_gt (blk_lt (g := gb101) (o := .cells #[.slice A0_0 l0_0.length c0_0, .int .i64 a0_1, .int .i64 a0_2] 75 (0, 0)) (by (with_reducible repeat (first | refine blk_drewN ?_ _ | refine blk_drew ?_ | refine blk_alloc ?_ _)); exact BK101.out)) : gb102 ≠ gb101)); clear BK101; clear HB; have BK101 := n0_; have HB := n1_; have BK102 := n2_; have GW102 := n3_; have GE102 := n4_; have NB101_102 := n5_; have NB102_101 := n6_; clear n0_ n1_ n2_ n3_ n4_ n5_ n6_; clear hb hbox hg) | ((with_reducible refine gate_dst (N := 3) rfl ?_); refine box_event ?hg (N := 3) ?hd (cs := #[.slice none 0 0, .int .i64 0, .int .i64 0]) (t := 30) ?hr ?_; (case hd => rfl); (case hg => rfl); (case hr => first | (go_simp; done) | (go_simp; rfl)); intro gb103 hg w5 hbox hb; have n0_ := Aside0.mk (blk_below (g := gb101) (o := .cells #[.slice A0_0 l0_0.length c0_0, .int .i64 a0_1, .int .i64 a0_2] 75 (0, 0)) (by (with_reducible repeat (first | refine blk_drewN ?_ _ | refine blk_drew ?_ | refine blk_alloc ?_ _)); exact BK101.out) hb); have n1_ := Aside0.mk (blk_below (g := gb102) (o := .cells #[.slice none 0 0, .int .i64 0, .int .i64 0] 30 (0, 0)) (by (with_reducible repeat (first | refine blk_drewN ?_ _ | refine blk_drew ?_ | refine blk_alloc ?_ _)); exact BK102.out) hb); have n2_ := Aside0.mk (below_step (by repeat (first | (with_reducible first | exact HB.out | apply below_alloc | apply pw_below_drewN | apply below_drew1 | refine below_set ?_ GE101.out | refine below_set ?_ GE102.out) | exact HB.out)) hb); have n3_ := Aside0.mk (hbox); have n4_ := Aside0.mk ((by rw [hg]; exact (below_size (by repeat (first | (with_reducible first | exact HB.out | apply below_alloc | apply pw_below_drewN | apply below_drew1 | refine below_set ?_ GE101.out | refine below_set ?_ GE102.out) | exact HB.out))) : w.heap.size ≤ gb103)); have n5_ := Aside0.mk ((by rw [hg]; exact (below_size (by repeat (first | (with_reducible first | exact HB.out | apply below_alloc | apply pw_below_drewN | apply below_drew1 | refine below_set ?_ GE101.out | refine below_set ?_ GE102.out) | exact HB.out))) : w.heap.size ≤ gb103)); have n6_ := Aside0.mk ((by rw [hg]; exact Nat.ne_of_lt (blk_lt (g := gb101) (o := .cells #[.slice A0_0 l0_0.length c0_0, .int .i64 a0_1, .int .i64 a0_2] 75 (0, 0)) (by (with_reducible repeat (first | refine blk_drewN ?_ _ | refine blk_drew ?_ | refine blk_alloc ?_ _)); exact BK101.out)) : gb101 ≠ gb103)); have n7_ := Aside0.mk ((by rw [hg]; exact Nat.ne_of_gt (blk_lt (g := gb101) (o := .cells #[.slice A0_0 l0_0.length c0_0, .int .i64 a0_1, .int .i64 a0_2] 75 (0, 0)) (by (with_reducible repeat (first | refine blk_drewN ?_ _ | refine blk_drew ?_ | refine blk_alloc ?_ _)); exact BK101.out)) : gb103 ≠ gb101)); have n8_ := Aside0.mk ((by rw [hg]; exact Nat.ne_of_lt (blk_lt (g := gb102) (o := .cells #[.slice none 0 0, .int .i64 0, .int .i64 0] 30 (0, 0)) (by (with_reducible repeat (first | refine blk_drewN ?_ _ | refine blk_drew ?_ | refine blk_alloc ?_ _)); exact BK102.out)) : gb102 ≠ gb103)); have n9_ := Aside0.mk ((by rw [hg]; exact Nat.ne_of_gt (blk_lt (g := gb102) (o := .cells #[.slice none 0 0, .int .i64 0, .int .i64 0] 30 (0, 0)) (by (with_reducible repeat (first | refine blk_drewN ?_ _ | refine blk_drew ?_ | refine blk_alloc ?_ _)); exact BK102.out)) : gb103 ≠ gb102)); clear BK101; clear BK102; clear HB; have BK101 := n0_; have BK102 := n1_; have HB := n2_; have BK103 := n3_; have GW103 := n4_; have GE103 := n5_; have NB101_103 := n6_; have NB103_101 := n7_; have NB102_103 := n8_; have NB103_102 := n9_; clear n0_ n1_ n2_ n3_ n4_ n5_ n6_ n7_ n8_ n9_; clear hb hbox hg; have hnb6 := NB101_102.out; have hnc6 := NB102_101.out; have hnb7 := NB101_103.out; have hnc7 := NB103_101.out; have hcz8_0 : w5.cell? ⟨gb101, 0, none⟩ = some (.slice A0_0 l0_0.length c0_0) := (blk_cell BK101.out 0).trans rfl; have hcz8_1 : w5.cell? ⟨gb101, 1, none⟩ = some (.int .i64 a0_1) := (blk_cell BK101.out 1).trans rfl; have hcz8_2 : w5.cell? ⟨gb101, 2, none⟩ = some (.int .i64 a0_2) := (blk_cell BK101.out 2).trans rfl; have hfz8_0 := blk_frozen BK101.out 0; have hfz8_1 := blk_frozen BK101.out 1; have hfz8_2 := blk_frozen BK101.out 2) | ((with_reducible refine gate_callee (f := 10) rfl ?_); refine goesL_ (some 6) rfl rfl Try.func10 (by kernel_rfl) rfl #[.agg #[.slice A0_0 l0_0.length c0_0]] rfl (by (try simp only [List.map_toArray, List.map_cons, List.map_nil]); first | done | rfl | (simp only [List.length_drop, List.length_take]; rfl)) ?_; (with_reducible refine (laws_toRow.calls k _ _ l0_0 t104 _ ?side1 ?side2 A2.out).mono ?_); (case side1 => repeat (first | exact (Kd.C_below HR0_0.out HB.out) | (with_reducible refine Kd.C_alloc ?_ _) | (with_reducible refine Kd.C_drewN ?_ _) | (with_reducible refine Kd.C_drew ?_))); (case side2 => exact HC0_0.out); rintro e w9 ⟨v105, rfl, ho0, hb⟩; refine ⟨_, rfl, ?_⟩; have n0_ := Aside0.mk (Kd.R_lower ho0 (below_size (by repeat (first | (with_reducible first | exact HB.out | apply below_alloc | apply pw_below_drewN | apply below_drew1 | refine below_set ?_ GE101.out | refine below_set ?_ GE102.out | refine below_set ?_ GE103.out) | exact HB.out)))); have n1_ := Aside0.mk (blk_below (g := gb101) (o := .cells #[.slice A0_0 l0_0.length c0_0, .int .i64 a0_1, .int .i64 a0_2] 75 (0, 0)) (by (with_reducible repeat (first | refine blk_drewN ?_ _ | refine blk_drew ?_ | refine blk_alloc ?_ _)); exact BK101.out) hb); have n2_ := Aside0.mk (blk_below (g := gb102) (o := .cells #[.slice none 0 0, .int .i64 0, .int .i64 0] 30 (0, 0)) (by (with_reducible repeat (first | refine blk_drewN ?_ _ | refine blk_drew ?_ | refine blk_alloc ?_ _)); exact BK102.out) hb); have n3_ := Aside0.mk (blk_below (g := gb103) (o := .cells #[.slice none 0 0, .int .i64 0, .int .i64 0] 30 (0, 0)) (by (with_reducible repeat (first | refine blk_drewN ?_ _ | refine blk_drew ?_ | refine blk_alloc ?_ _)); exact BK103.out) hb); have n4_ := Aside0.mk (below_step (by repeat (first | (with_reducible first | exact HB.out | apply below_alloc | apply pw_below_drewN | apply below_drew1 | refine below_set ?_ GE101.out | refine below_set ?_ GE102.out | refine below_set ?_ GE103.out) | exact HB.out)) hb); clear BK101; clear BK102; clear BK103; clear HB; have HO106 := n0_; have BK101 := n1_; have BK102 := n2_; have BK103 := n3_; have HB := n4_; clear n0_ n1_ n2_ n3_ n4_; (try clear hb); (try clear hb2); (try clear hk); (try clear hi); (try clear ho0); obtain ⟨Ao10, co10, eo10⟩ := Kd.R_slice HO106.out; subst eo10; have hnb11 := NB103_102.out; have hnc11 := NB102_103.out; have hcz12_0 : w9.cell? ⟨gb103, 0, none⟩ = some (.slice none 0 0) := (blk_cell BK103.out 0).trans rfl; have hcz12_1 : w9.cell? ⟨gb103, 1, none⟩ = some (.int .i64 0) := (blk_cell BK103.out 1).trans rfl; have hcz12_2 : w9.cell? ⟨gb103, 2, none⟩ = some (.int .i64 0) := (blk_cell BK103.out 2).trans rfl; have hfz12_0 := blk_frozen BK103.out 0; have hfz12_1 := blk_frozen BK103.out 1; have hfz12_2 := blk_frozen BK103.out 2; have hcz13_0 : w9.cell? ⟨gb101, 0, none⟩ = some (.slice A0_0 l0_0.length c0_0) := (blk_cell BK101.out 0).trans rfl; have hcz13_1 : w9.cell? ⟨gb101, 1, none⟩ = some (.int .i64 a0_1) := (blk_cell BK101.out 1).trans rfl; have hcz13_2 : w9.cell? ⟨gb101, 2, none⟩ = some (.int .i64 a0_2) := (blk_cell BK101.out 2).trans rfl; have hfz13_0 := blk_frozen BK101.out 0; have hfz13_1 := blk_frozen BK101.out 1; have hfz13_2 := blk_frozen BK101.out 2; have hcz14_0 : w9.cell? ⟨gb102, 0, none⟩ = some (.slice none 0 0) := (blk_cell BK102.out 0).trans rfl; have hcz14_1 : w9.cell? ⟨gb102, 1, none⟩ = some (.int .i64 0) := (blk_cell BK102.out 1).trans rfl; have hcz14_2 : w9.cell? ⟨gb102, 2, none⟩ = some (.int .i64 0) := (blk_cell BK102.out 2).trans rfl; have hfz14_0 := blk_frozen BK102.out 0; have hfz14_1 := blk_frozen BK102.out 1; have hfz14_2 := blk_frozen BK102.out 2))
 refine bodyPost_ret (results_cell_row rfl _ _ gb102 30 #[.slice Ao10 t104.length co10, .int .i64 a0_1, .int .i64 a0_2] (0, 0) _ rfl (by (with_reducible repeat (first | refine blk_drewN ?_ _ | refine blk_drew ?_ | refine blk_alloc ?_ _)); refine blk_put (cs := #[.slice Ao10 t104.length co10, .int .i64 a0_1, .int .i64 0]) ?_ 2 _ rfl; (with_reducible repeat (first | refine blk_drewN ?_ _ | refine blk_drew ?_ | refine blk_alloc ?_ _)); refine blk_put (cs := #[.slice Ao10 t104.length co10, .int .i64 0, .int .i64 0]) ?_ 1 _ rfl; (with_reducible repeat (first | refine blk_drewN ?_ _ | refine blk_drew ?_ | refine blk_alloc ?_ _)); refine blk_put (cs := #[.slice none 0 0, .int .i64 0, .int .i64 0]) ?_ 0 _ rfl; (with_reducible repeat (first | refine blk_drewN ?_ _ | refine blk_drew ?_ | refine blk_alloc ?_ _)); refine blk_far ?_ NB102_103.out _; (with_reducible repeat (first | refine blk_drewN ?_ _ | refine blk_drew ?_ | refine blk_alloc ?_ _)); refine blk_far ?_ NB102_103.out _; (with_reducible repeat (first | refine blk_drewN ?_ _ | refine blk_drew ?_ | refine blk_alloc ?_ _)); refine blk_far ?_ NB102_103.out _; (with_reducible repeat (first | refine blk_drewN ?_ _ | refine blk_drew ?_ | refine blk_alloc ?_ _)); exact BK102.out) Try.underlying30 rfl (by kernel_rfl)) rfl ?_
 exact ⟨_, by first | rfl | (simp [errW_none, errW_some] <;> rfl) | (simp [*, errW_none, errW_some] <;> rfl), by (with_reducible repeat (first | apply Kd.R_alloc | apply Kd.R_drewN | apply Kd.R_drew)); exact Kd.R_mono (Kd.R_far (p := ⟨gb102, 2, none⟩) (Kd.R_far (p := ⟨gb102, 1, none⟩) (Kd.R_far (p := ⟨gb102, 0, none⟩) (Kd.R_far (p := ⟨gb103, 2, none⟩) (Kd.R_far (p := ⟨gb103, 1, none⟩) (Kd.R_far (p := ⟨gb103, 0, none⟩) (Kd.R_types (Kd.R_types HO106.out BK103.out (by decide)) BK102.out (by decide)) (fun _ hk => hk.1.2) (.slice Ao10 t104.length co10)) (fun _ hk => hk.1.2) (.int .i64 a0_1)) (fun _ hk => hk.1.2) (.int .i64 a0_2)) (fun _ hk => hk.2) (.slice Ao10 t104.length co10)) (fun _ hk => hk.2) (.int .i64 a0_1)) (fun _ hk => hk.2) (.int .i64 a0_2)) (fun _ hk => trivial), by repeat (first | (with_reducible first | exact HB.out | apply below_alloc | apply pw_below_drewN | apply below_drew1 | refine below_set ?_ GE101.out | refine below_set ?_ GE102.out | refine below_set ?_ GE103.out) | exact HB.out)⟩

end Go.Proofs.Ytbnmkikifjidjaa.Q
end
