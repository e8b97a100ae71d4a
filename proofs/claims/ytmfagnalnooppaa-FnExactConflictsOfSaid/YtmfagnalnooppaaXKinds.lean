/- Values of one's own that are written in place: each row's block is its own, a row without elements has none. -/
import Derived.Test.YtmfagnalnooppaaXBase
namespace Go.Proofs.Ytmfagnalnooppaa.Q
open Go.RowKit Go.Proofs.YtmfagnalnooppaaW.PrintWords Go.Proofs.YtmfagnalnooppaaW.PrintLast
set_option linter.unusedVariables false
set_option linter.unusedSimpArgs false

/-- A kind with what is owned: X w B x cs: the cells cs are x; what they lead to lies in blocks of B, each led to once. -/
structure KX (α : Type) extends Kd α where
  X : World → (Nat → Prop) → α → List Value → Prop
  X_K : ∀ {w B x cs}, X w B x cs → K w x cs
  X_mono : ∀ {w : World} {B B' : Nat → Prop} {x cs}, (∀ k, B k → B' k) → X w B x cs → X w B' x cs
  X_move : ∀ {w w1 : World} {B x cs}, (∀ k, B k → k < w.heap.size → w1.heap[k]? = w.heap[k]?) → X w B x cs → X w1 B x cs
  X_bound : ∀ {w : World} {B x cs}, X w B x cs → X w (fun k => B k ∧ k < w.heap.size) x cs

namespace KX
variable {α β : Type}
def scalar (enc : α → Value) (h1 : ∀ x, (enc x).oneCell' = true) : KX α where
  toKd := Kd.scalar enc h1
  X := fun _ _ x cs => cs = [enc x]
  X_K := fun h => h
  X_mono := fun _ h => h
  X_move := fun _ h => h
  X_bound := fun h => h
def int : KX Int := scalar (Value.int .i64) (fun _ => rfl)
def bool : KX Bool := scalar Value.bool (fun _ => rfl)
def pair (a : KX α) (b : KX β) : KX (α × β) where
  toKd := Kd.pair a.toKd b.toKd
  X := fun w B x cs => ∃ c0 c1, cs = c0 ++ c1 ∧ ∃ f : Nat → Bool, a.X w (fun k => B k ∧ f k = true) x.1 c0 ∧ b.X w (fun k => B k ∧ f k = false) x.2 c1
  X_K := by
    rintro w B x cs ⟨c0, c1, rfl, f, h0, h1⟩
    exact ⟨c0, c1, rfl, a.X_K h0, b.X_K h1⟩
  X_mono := by
    rintro w B B' x cs hB ⟨c0, c1, rfl, f, h0, h1⟩
    exact ⟨c0, c1, rfl, f, a.X_mono (fun k hk => ⟨hB k hk.1, hk.2⟩) h0, b.X_mono (fun k hk => ⟨hB k hk.1, hk.2⟩) h1⟩
  X_move := by
    rintro w w1 B x cs hm ⟨c0, c1, rfl, f, h0, h1⟩
    exact ⟨c0, c1, rfl, f, a.X_move (fun k hk hl => hm k hk.1 hl) h0, b.X_move (fun k hk hl => hm k hk.1 hl) h1⟩
  X_bound := by
    rintro w B x cs ⟨c0, c1, rfl, f, h0, h1⟩
    exact ⟨c0, c1, rfl, f, a.X_mono (fun k hk => ⟨⟨hk.1.1, hk.2⟩, hk.1.2⟩) (a.X_bound h0), b.X_mono (fun k hk => ⟨⟨hk.1.1, hk.2⟩, hk.1.2⟩) (b.X_bound h1)⟩
def iso (d : KX α) (f : β → α) : KX β where
  toKd := Kd.iso d.toKd f
  X := fun w B x cs => d.X w B (f x) cs
  X_K := fun h => d.X_K h
  X_mono := fun hB h => d.X_mono hB h
  X_move := fun hm h => d.X_move hm h
  X_bound := fun h => d.X_bound h
/-- A row: v's cells. -/
def Row (d : KX α) (e : Nat) (w : World) (B : Nat → Prop) (v : Value) (xs : List α) : Prop :=
  ∃ A c, v = .slice A xs.length c ∧ xs.length ≤ c ∧ c ≤ maxLen ∧ (0 < xs.length → ∃ (g : Nat) (cur : Array Value) (f : Nat → Nat), A = some ⟨g, 0, none⟩ ∧ B g ∧ w.heap[g]? = some (.cells cur e (0, 0)) ∧
    ∀ j p, xs[j]? = some p → ∃ cc, cc.length = d.sz ∧ (∀ i u, cc[i]? = some u → cur[j * d.sz + i]? = some u) ∧ d.X w (fun k => B k ∧ k ≠ g ∧ f k = j) p cc)
section
variable {d : KX α} {e : Nat} {w w1 : World} {B B' : Nat → Prop} {v : Value} {xs : List α}
theorem Row_reads (h : Row d e w B v xs) : ∃ A c, v = .slice A xs.length c ∧ xs.length ≤ c ∧ d.C w A xs.length xs := by
  obtain ⟨A, c, hv, hc, hm, hr⟩ := h
  refine ⟨A, c, hv, hc, rfl, by simp only [maxLen] at hm; omega, fun hp => ?_⟩
  obtain ⟨g, cur, f, rfl, hg, hh, hel⟩ := hr hp
  refine ⟨_, rfl, fun j p hj => ?_⟩
  obtain ⟨cc, hl, hcc, hx⟩ := hel j p hj
  refine ⟨cc, hl, d.X_K hx, fun i u hu => ?_⟩
  rw [add_plain]
  exact (blk_cell hh _).trans (hcc i u hu)
theorem Row_mono (hB : ∀ k, B k → B' k) (h : Row d e w B v xs) : Row d e w B' v xs := by
  obtain ⟨A, c, hv, hc, hm, hr⟩ := h
  refine ⟨A, c, hv, hc, hm, fun hp => ?_⟩
  obtain ⟨g, cur, f, hA, hg, hh, hel⟩ := hr hp
  refine ⟨g, cur, f, hA, hB g hg, hh, fun j p hj => ?_⟩
  obtain ⟨cc, hl, hcc, hx⟩ := hel j p hj
  exact ⟨cc, hl, hcc, d.X_mono (fun k hk => ⟨hB k hk.1, hk.2⟩) hx⟩
theorem Row_move (hm : ∀ k, B k → k < w.heap.size → w1.heap[k]? = w.heap[k]?) (h : Row d e w B v xs) : Row d e w1 B v xs := by
  obtain ⟨A, c, hv, hc, hmx, hr⟩ := h
  refine ⟨A, c, hv, hc, hmx, fun hp => ?_⟩
  obtain ⟨g, cur, f, hA, hg, hh, hel⟩ := hr hp
  refine ⟨g, cur, f, hA, hg, (hm g hg (blk_lt hh)).trans hh, fun j p hj => ?_⟩
  obtain ⟨cc, hl, hcc, hx⟩ := hel j p hj
  exact ⟨cc, hl, hcc, d.X_move (fun k hk hl => hm k hk.1 hl) hx⟩
theorem Row_bound (h : Row d e w B v xs) : Row d e w (fun k => B k ∧ k < w.heap.size) v xs := by
  obtain ⟨A, c, hv, hc, hmx, hr⟩ := h
  refine ⟨A, c, hv, hc, hmx, fun hp => ?_⟩
  obtain ⟨g, cur, f, hA, hg, hh, hel⟩ := hr hp
  refine ⟨g, cur, f, hA, ⟨hg, blk_lt hh⟩, hh, fun j p hj => ?_⟩
  obtain ⟨cc, hl, hcc, hx⟩ := hel j p hj
  exact ⟨cc, hl, hcc, d.X_mono (fun k hk => ⟨⟨hk.1.1, hk.2⟩, hk.1.2⟩) (d.X_bound hx)⟩
theorem Row_below (h : Row d e w B v xs) (hb : Below w.heap.size w w1) : Row d e w1 B v xs := Row_move (fun k _ hl => hb.block k hl) h
/-- A row without elements, wherever it lies. -/
theorem Row_none (A : Option Addr) (c : Nat) (hc : c ≤ maxLen) : Row d e w B (.slice A 0 c) ([] : List α) := ⟨A, c, rfl, Nat.zero_le _, hc, fun h => absurd h (Nat.lt_irrefl _)⟩
theorem Row_nil : Row d e w B (.slice none 0 0) ([] : List α) := Row_none none 0 (Nat.zero_le _)
end
def slice (e : Nat) (d : KX α) : KX (List α) where
  toKd := Kd.slice e d.toKd
  X := fun w B xs cs => ∃ v, cs = [v] ∧ Row d e w B v xs
  X_K := by
    rintro w B x cs ⟨v, rfl, h⟩
    obtain ⟨A, c, rfl, hc, hr⟩ := Row_reads h
    exact ⟨A, c, rfl, hc, hr⟩
  X_mono := by
    rintro w B B' x cs hB ⟨v, rfl, h⟩
    exact ⟨v, rfl, Row_mono hB h⟩
  X_move := by
    rintro w w1 B x cs hm ⟨v, rfl, h⟩
    exact ⟨v, rfl, Row_move hm h⟩
  X_bound := by
    rintro w B x cs ⟨v, rfl, h⟩
    exact ⟨v, rfl, Row_bound h⟩

/-! ### an element taken and given back -/
section
variable {d : KX α} {e : Nat} {w w1 : World} {B B' : Nat → Prop} {v : Value} {xs : List α}
/-- Element i of a row: its block and cells; what it leads to lies in blocks of its own; and how it is given back. -/
theorem Row_elem (h : Row d e w B v xs) (z : α) (i : Nat) (hi : i < xs.length) :
    ∃ (g c : Nat) (cur : Array Value) (f : Nat → Nat) (cc : List Value), v = .slice (some ⟨g, 0, none⟩) xs.length c ∧ xs.length ≤ c ∧ B g ∧ w.heap[g]? = some (.cells cur e (0, 0)) ∧ cc.length = d.sz ∧ (∀ j u, cc[j]? = some u → cur[i * d.sz + j]? = some u) ∧ d.X w (fun k => B k ∧ k ≠ g ∧ f k = i) (xs.getD i z) cc ∧
      ∀ (w1 : World) (cur1 : Array Value) (cc1 : List Value) (y : α), w1.heap[g]? = some (.cells cur1 e (0, 0)) → cc1.length = d.sz → (∀ j u, cc1[j]? = some u → cur1[i * d.sz + j]? = some u) →
        (∀ q, (q < i * d.sz ∨ i * d.sz + d.sz ≤ q) → cur1[q]? = cur[q]?) → d.X w1 (fun k => B k ∧ k ≠ g ∧ f k = i) y cc1 → (∀ k, B k → k ≠ g → f k ≠ i → k < w.heap.size → w1.heap[k]? = w.heap[k]?) → Row d e w1 B v (xs.set i y) := by
  obtain ⟨A, c, rfl, hc, hmx, hr⟩ := h
  obtain ⟨g, cur, f, rfl, hg, hh, hel⟩ := hr (by omega)
  obtain ⟨cc, hl, hcc, hx⟩ := hel i _ (List.getElem?_eq_getElem hi)
  refine ⟨g, c, cur, f, cc, rfl, hc, hg, hh, hl, hcc, by rw [List.getD_eq_getElem?_getD, List.getElem?_eq_getElem hi]; exact hx, ?_⟩
  intro w1 cur1 cc1 y hh1 hl1 hcc1 hout hx1 hoth
  refine ⟨_, c, by rw [List.length_set], by rw [List.length_set]; exact hc, hmx, fun _ => ⟨g, cur1, f, rfl, hg, hh1, fun j p hj => ?_⟩⟩
  by_cases hji : j = i
  · subst hji
    rw [List.getElem?_set_self hi] at hj
    injection hj with hj
    subst hj
    exact ⟨cc1, hl1, hcc1, hx1⟩
  · rw [List.getElem?_set_ne (Ne.symm hji)] at hj
    obtain ⟨c2, hl2, hcc2, hx2⟩ := hel j p hj
    refine ⟨c2, hl2, fun q u hu => ?_, d.X_move (fun k hk hlt => hoth k hk.1 hk.2.1 (by rw [hk.2.2]; exact hji) hlt) hx2⟩
    rw [hout _ ?_]
    · exact hcc2 q u hu
    · have hq : q < d.sz := by
        have := (List.getElem?_eq_some_iff.1 hu).1
        omega
      rcases Nat.lt_or_gt_of_ne hji with hlt | hgt
      · left
        have : (j + 1) * d.sz ≤ i * d.sz := Nat.mul_le_mul_right _ hlt
        rw [Nat.add_mul, Nat.one_mul] at this
        omega
      · right
        have : (i + 1) * d.sz ≤ j * d.sz := Nat.mul_le_mul_right _ hgt
        rw [Nat.add_mul, Nat.one_mul] at this
        omega
end

/-! ### out of what the print tells -/
section
variable {d : KX α} {e base : Nat} {w : World} {ok : Nat → Prop} {v : Value} {xs : List α}
/-- A row of the call's own, of elements that lead nowhere. -/
theorem Row_of_R (hflat : ∀ (W : World) (b : Nat) (o B : Nat → Prop) (x : α) (cs : List Value), d.M W b o x cs → d.X W B x cs) (h : d.toKd.R e w base ok v xs) : Row d e w ok v xs := by
  obtain ⟨h0, inner, ho, hr⟩ := h
  obtain ⟨hl, ho⟩ := ho
  rcases ho with ⟨rfl, hn⟩ | ⟨g, cap, cur, rfl, hb, hh, hnc, hcm, hcs, ht⟩
  · have : xs = [] := List.eq_nil_of_length_eq_zero hn
    subst this
    exact Row_nil
  · refine ⟨_, cap, rfl, hnc, hcm, fun hp => ⟨g, cur, fun _ => 0, rfl, h0 g (by simp [Value.ownBlock]), hh, fun j p hj => ?_⟩⟩
    have hjl := (List.getElem?_eq_some_iff.1 hj).1
    have h1 : j * d.sz + d.sz ≤ inner.length := by rw [hr.1, ← Nat.succ_mul]; exact Nat.mul_le_mul_right _ hjl
    refine ⟨(inner.drop (j * d.sz)).take d.sz, by rw [List.length_take, List.length_drop]; omega, fun i u hu => ?_, hflat _ _ _ _ _ _ (hr.2 j p hj)⟩
    rw [List.getElem?_take] at hu
    split at hu
    · rw [List.getElem?_drop, ← ht, List.getElem?_take] at hu
      split at hu
      · simpa using hu
      · cases hu
    · cases hu
/-- A row of the call's own whose elements lie apart. -/
theorem Row_of_S (hin : ∀ (W : World) (b : Nat) (o : Nat → Prop) (x : α) (cs : List Value), d.M W b o x cs → d.X W o x cs) (h : Kd.S d.toKd e w base ok v xs) : Row d e w ok v xs := by
  obtain ⟨f, h0, inner, ho, hr⟩ := h
  rw [List.length_zipIdx] at ho
  obtain ⟨hl, ho⟩ := ho
  rcases ho with ⟨rfl, hn⟩ | ⟨g, cap, cur, rfl, hb, hh, hnc, hcm, hcs, ht⟩
  · have : xs = [] := List.eq_nil_of_length_eq_zero hn
    subst this
    exact Row_nil
  · refine ⟨_, cap, rfl, hnc, hcm, fun hp => ⟨g, cur, f, rfl, h0 g (by simp [Value.ownBlock]), hh, fun j p hj => ?_⟩⟩
    have hjl := (List.getElem?_eq_some_iff.1 hj).1
    have hr1 := hr.1
    rw [List.length_zipIdx] at hr1
    have h1 : j * d.sz + d.sz ≤ inner.length := by rw [hr1, ← Nat.succ_mul]; exact Nat.mul_le_mul_right _ hjl
    have h2 := hr.2 j (p, j) (Kd.zip_at hj)
    refine ⟨(inner.drop (j * d.sz)).take d.sz, by rw [List.length_take, List.length_drop]; omega, fun i u hu => ?_, d.X_mono (fun k hk => ⟨hk.1.1, fun e => hk.1.2 (by rw [e]; rfl), hk.2⟩) (hin _ _ _ _ _ h2)⟩
    rw [List.getElem?_take] at hu
    split at hu
    · rw [List.getElem?_drop, ← ht, List.getElem?_take] at hu
      split at hu
      · simpa using hu
      · cases hu
    · cases hu
end
end KX

/-! ### what a writing call leaves -/
/-- All but the blocks of B (and what is new) is as it was. -/
structure Wrote (B : Nat → Prop) (w w' : World) : Prop where
  os : w'.os = w.os
  tape : w'.tape = w.tape
  output : w'.output = w.output
  size : w.heap.size ≤ w'.heap.size
  block : ∀ i, i < w.heap.size → ¬ B i → w'.heap[i]? = w.heap[i]?
namespace Wrote
variable {B B' : Nat → Prop} {w w1 w2 : World}
theorem refl (B : Nat → Prop) (w : World) : Wrote B w w := ⟨rfl, rfl, rfl, Nat.le_refl _, fun _ _ _ => rfl⟩
theorem of_below (h : Below w.heap.size w w1) : Wrote B w w1 := ⟨h.os, h.tape, h.output, h.size, fun i hi _ => h.block i hi⟩
theorem trans (h : Wrote B w w1) (k : Wrote B w1 w2) : Wrote B w w2 := ⟨k.os.trans h.os, k.tape.trans h.tape, k.output.trans h.output, Nat.le_trans h.size k.size, fun i hi hn => (k.block i (Nat.lt_of_lt_of_le hi h.size) hn).trans (h.block i hi hn)⟩
theorem mono (h : Wrote B w w1) (hB : ∀ k, B k → k < w.heap.size → B' k) : Wrote B' w w1 := ⟨h.os, h.tape, h.output, h.size, fun i hi hn => h.block i hi (fun hb => hn (hB i hb hi))⟩
theorem below {base : Nat} {w0 : World} (h0 : Below base w0 w) (h : Wrote B w w1) (hB : ∀ k, B k → base ≤ k) (hb : base ≤ w.heap.size) : Below base w0 w1 :=
  ⟨h.os.trans h0.os, h.tape.trans h0.tape, h.output.trans h0.output, Nat.le_trans h0.size h.size, fun i hi => (h.block i (Nat.lt_of_lt_of_le hi hb) (fun hk => by have := hB i hk; omega)).trans (h0.block i hi)⟩
theorem setCell (g j : Nat) (u : Value) (hg : B g) : Wrote B w (w.setCell ⟨g, j, none⟩ u) := ⟨rfl, rfl, rfl, by simp, fun i hi hn => Below.heap_setCell w ⟨g, j, none⟩ u i (fun e => hn (by rw [e]; exact hg))⟩
theorem drew (h : Wrote B w w1) : Wrote B w w1.drew := ⟨h.os, h.tape, h.output, h.size, h.block⟩
theorem drewN (h : Wrote B w w1) (n : Nat) : Wrote B w (w1.drewN n) := ⟨h.os, h.tape, h.output, h.size, h.block⟩
end Wrote
end Go.Proofs.Ytmfagnalnooppaa.Q
