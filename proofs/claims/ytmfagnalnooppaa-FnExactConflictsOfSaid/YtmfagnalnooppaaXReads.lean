/- What an argument reads as, laid open as a plain value, by its type's shape. -/
import Derived.Test.YtmfagnalnooppaaQ0
import Derived.Deep.Slices
import Derived.ChangeArms
import Derived.OpenShut
namespace Go.Proofs.Ytmfagnalnooppaa.Q
open Go.RowKit Go.Proofs.YtmfagnalnooppaaW.PrintWords
set_option linter.unusedVariables false
set_option linter.unusedSimpArgs false

/-- Whatever reads as type t is a value of kind d. -/
def Opens {α : Type} (P : Program) (W : World) (t : TypeId) (d : Kd α) : Prop :=
  ∀ {H : Type} (enc : TypeId × Value → H) (base : Nat) (spare : Nat → Bool) (held : Bool) (fuel : Nat) (cs : List Value) (x : DataW H × List MemPlace), DataW.trod enc P W base spare held fuel t cs = some x → ∃ y, d.K W y cs
/-- .. a struct's fields, from cell o on. -/
def OpensF {α : Type} (P : Program) (W : World) (o : Nat) (fs : List Field) (d : Kd α) : Prop :=
  ∀ {H : Type} (enc : TypeId × Value → H) (base : Nat) (spare : Nat → Bool) (held : Bool) (n : Nat) (cs : List Value), cs.length = d.sz →
    (∀ (i : Nat) (f : Field), fs[i]? = some f → ∃ x, DataW.trod enc P W base spare held n f.type ((cs.drop (f.offset - o)).take (P.cellsOf f.type)) = some x) → ∃ y, d.K W y cs
namespace Opens
variable {α β : Type} {P : Program} {W : World} {t e : TypeId} {d : Kd α} {k : IntKind}
theorem int (ht : P.underlying t = some (.int k)) : Opens P W t (Kd.int k) := by
  intro H enc base spare held fuel cs x h
  obtain ⟨n, rfl, _, _⟩ := DataW.trod_int ht h
  exact ⟨n, rfl⟩
theorem bool (ht : P.underlying t = some .bool) : Opens P W t Kd.bool := by
  intro H enc base spare held fuel cs x h
  obtain ⟨n, rfl, _⟩ := DataW.trod_bool ht h
  exact ⟨n, rfl⟩
theorem string (ht : P.underlying t = some .string) : Opens P W t Kd.string := by
  intro H enc base spare held fuel cs x h
  obtain ⟨n, rfl, _⟩ := DataW.trod_string ht h
  exact ⟨n, rfl⟩
theorem last {o : Nat} {f : Field} (ho : f.offset = o) (hc : P.cellsOf f.type = d.sz) (h : Opens P W f.type d) : OpensF P W o [f] d := by
  intro H enc base spare held n cs hl hf
  obtain ⟨x, hx⟩ := hf 0 f rfl
  rw [ho, Nat.sub_self, List.drop_zero, hc, ← hl, List.take_length] at hx
  exact h enc base spare held n cs x hx
theorem cons {d1 : Kd β} {o : Nat} {f : Field} {fs : List Field} (ho : f.offset = o) (hc : P.cellsOf f.type = d.sz) (h : Opens P W f.type d) (hr : OpensF P W (o + d.sz) fs d1) (hle : fs.all (fun g => decide (o + d.sz ≤ g.offset)) = true) : OpensF P W o (f :: fs) (Kd.pair d d1) := by
  intro H enc base spare held n cs hl hf
  have hl' : cs.length = d.sz + d1.sz := hl
  obtain ⟨x, hx⟩ := hf 0 f rfl
  rw [ho, Nat.sub_self, List.drop_zero, hc] at hx
  obtain ⟨y, hy⟩ := h enc base spare held n _ x hx
  obtain ⟨z, hz⟩ := hr enc base spare held n (cs.drop d.sz) (by rw [List.length_drop, hl']; omega) (fun i g hg => by
    obtain ⟨x, hx⟩ := hf (i + 1) g (by simpa using hg)
    have hm := List.all_eq_true.1 hle g (List.mem_of_getElem? hg)
    have hm := of_decide_eq_true hm
    rw [List.drop_drop, show d.sz + (g.offset - (o + d.sz)) = g.offset - o from by omega]
    exact ⟨x, hx⟩)
  exact ⟨(y, z), cs.take d.sz, cs.drop d.sz, (List.take_append_drop _ _).symm, hy, hz⟩
theorem struct {fs : Array Field} {f : β → α} {g : α → β} (hfg : ∀ x, f (g x) = x) (ht : P.underlying t = some (.struct fs)) (hc : P.cellsOf t = d.sz) (h : OpensF P W 0 fs.toList d) : Opens P W t (Kd.iso d f) := by
  intro H enc base spare held fuel cs x hx
  obtain ⟨xs, n, _, _, hl, hxl, hf⟩ := DataW.trod_struct ht hx
  obtain ⟨y, hy⟩ := h enc base spare held n cs (by rw [hl, hc]) (fun i f0 hf0 => by
    have hi : i < fs.size := by
      rw [← Array.length_toList]
      exact (List.getElem?_eq_some_iff.1 hf0).1
    have h2 := hf i f0 (by rw [← Array.getElem?_toList]; exact hf0)
    rw [List.getElem?_eq_getElem (by omega)] at h2
    exact ⟨_, by rw [Nat.sub_zero]; exact h2⟩)
  exact ⟨g y, by show d.K W (f (g y)) cs; rw [hfg]; exact hy⟩
theorem choose_list {R : Nat → α → Prop} : ∀ (n : Nat), (∀ i, i < n → ∃ y, R i y) → ∃ ys : List α, ys.length = n ∧ ∀ i y, ys[i]? = some y → R i y
  | 0, _ => ⟨[], rfl, by simp⟩
  | n + 1, h => by
    obtain ⟨ys, hl, hy⟩ := choose_list n (fun i hi => h i (by omega))
    obtain ⟨z, hz⟩ := h n (by omega)
    refine ⟨ys ++ [z], by simp [hl], fun i y hiy => ?_⟩
    by_cases hi : i < n
    · rw [List.getElem?_append_left (by omega)] at hiy
      exact hy i y hiy
    · have hi2 : i < n + 1 := by have := (List.getElem?_eq_some_iff.1 hiy).1; simp [hl] at this; omega
      have : i = n := by omega
      subst this
      rw [List.getElem?_append_right (by omega), hl, Nat.sub_self] at hiy
      obtain rfl : z = y := by simpa using hiy
      exact hz
/-- A slice's value and what it reads as. -/
theorem row (ht : P.underlying t = some (.slice e)) (hc : P.cellsOf e = d.sz) (he : Opens P W e d) {H : Type} {enc : TypeId × Value → H} {base : Nat} {spare : Nat → Bool} {held : Bool} {fuel : Nat} {cs : List Value} {x : DataW H × List MemPlace} (h : DataW.trod enc P W base spare held fuel t cs = some x) :
    ∃ (A : Option Addr) (c : Nat) (ys : List α), cs = [.slice A ys.length c] ∧ ys.length ≤ c ∧ c ≤ maxLen ∧ d.C W A ys.length ys := by
  rcases Go.Deep.open_slice ht h with ⟨rfl, _⟩ | ⟨a, len, cap, m, n, D, Pl, rfl, hb, hl, hm, hmm, rfl, hx⟩
  · exact ⟨none, 0, [], rfl, Nat.le_refl _, Nat.zero_le _, rfl, by simp, fun h => absurd h (by simp)⟩
  · have hlm : len ≤ m := by rw [hmm]; split <;> omega
    obtain ⟨ys, hyl, hys⟩ := choose_list (R := fun i y => ∃ c : List Value, c.length = d.sz ∧ d.K W y c ∧ ∀ j u, c[j]? = some u → W.cell? (a.add (i * d.sz + j)) = some u) len (fun i hi => by
      obtain ⟨cs', h1, h2⟩ := hx i (by omega)
      obtain ⟨_, hlen, hcell⟩ := World.cells?_some h1
      obtain ⟨y, hy⟩ := he enc base spare held n cs' _ h2
      refine ⟨y, cs', by rw [hlen, hc], hy, fun j u hu => ?_⟩
      have hj := (List.getElem?_eq_some_iff.1 hu).1
      have h3 := hcell j (by omega)
      rw [Go.Deep.add_add, hc] at h3
      rw [h3, hu])
    subst hyl
    refine ⟨some a, cap, ys, rfl, hl, hm, rfl, by simp only [maxLen] at hm; omega, fun _ => ⟨a, rfl, fun j p hj => hys j p hj⟩⟩
theorem slice (ht : P.underlying t = some (.slice e)) (hc : P.cellsOf e = d.sz) (he : Opens P W e d) : Opens P W t (Kd.slice e d) := by
  intro H enc base spare held fuel cs x h
  obtain ⟨A, c, ys, rfl, hl, _, hr⟩ := row ht hc he h
  exact ⟨ys, A, c, rfl, hl, hr⟩
end Opens
end Go.Proofs.Ytmfagnalnooppaa.Q
