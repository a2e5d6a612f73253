/- The oracles of closed calls: tables, over the class tables and sort.Slice at one element or none. -/
import Derived.Test.YthmnbgapdlbbfaaGreatDoorSTab
import Derived.Test.YthmnbgapdlbbfaaGreatDoorSSort
set_option linter.unusedSimpArgs false
set_option linter.unusedVariables false
open Go Go.Vm Go.Proofs
namespace Go.Vm.Seat
def sortO (args : List Value) (μ : Mem) : Option (Value × Mem) :=
  match args with
  | [.iface 374 (.slice none 0 0), .func (.func _) _ _] => some (.tuple #[], μ)
  | _ => none
def orcB : Oracle := fun f args μ => bif Nat.beq f 333 then sortO args μ else orcC f args μ
theorem sortO_ok : ∀ args μ v μ', sortO args μ = some (v, μ') → (∃ fn c, Tryz.prog.funcs[333]? = some fn ∧ fn.body = some c) ∧
      ∀ n ρ w (args' : Array Value), MRel ρ μ.blks w → LRel ρ args args'.toList → CallsIn Fence.wide n Tryz.prog 333 args' w (EndsV ρ μ w μ' v) := by
  intro args μ v μ' ho
  unfold sortO at ho
  split at ho
  · rename_i f a b
    injection ho with ho
    injection ho with h1 h2
    subst h1 h2
    refine ⟨⟨_, _, Tryz.func333, rfl⟩, fun n ρ w args' hm hl => ?_⟩
    obtain ⟨u1, y1, e1, r1, hl1⟩ := hl.of_cons
    obtain ⟨u2, y2, e2, r2, hl2⟩ := hl1.of_cons
    rw [LRel.of_nil hl2] at e2
    subst e2
    obtain ⟨x', y', rfl, _, _⟩ := func_rel r2
    have e3 : u1 = .iface 374 (.slice none 0 0) := r1.same rfl
    subst e3
    have e4 : args' = #[.iface 374 (.slice none 0 0), .func (.func f) x' y'] := by
      apply Array.ext'
      exact e1
    subst e4
    refine (callsIn_wide.2 (sortTiny _ _ _ w)).mono fun e w' he => ?_
    obtain ⟨rfl, os, rfl⟩ := he
    have old : ∀ r, r < w.heap.size → (Sort.grow w os).heap[r]? = w.heap[r]? := fun r hr => by
      show (w.heap ++ os)[r]? = _
      rw [Array.getElem?_append_left hr]
    exact ⟨ρ, .of_plain ρ rfl, hm.newer old, fun _ _ h => h, by show w.heap.size ≤ (w.heap ++ os).size; simp, fun r hr _ => old r hr, fun _ _ h => h, fun _ _ h => h, rfl, rfl, rfl, Nat.le_refl _, Nat.le_refl _, fun s _ _ h => h.newer old⟩
  · cases ho
theorem orcB_ok : OrcOK Tryz.prog orcB := by
  intro f args μ v μ' h
  unfold orcB at h
  cases h1 : Nat.beq f 333 with
  | true => rw [h1, cond_true] at h; rw [Nat.eq_of_beq_eq_true h1]; exact sortO_ok _ _ _ _ h
  | false => rw [h1, cond_false] at h; exact orcC_ok _ _ _ _ _ h
def orcT (t : List Entry) : Oracle := fun f args μ =>
  match tfind t f args μ with
  | some r => some r
  | none => orcB f args μ
theorem orcT_ok {t : List Entry} (h : ∀ x ∈ t, EntryOK2 Tryz.prog x) : OrcOK Tryz.prog (orcT t) := by
  intro f args μ v μ' ho
  unfold orcT at ho
  split at ho
  · rename_i r hr
    injection ho with ho
    subst ho
    exact tbl_ok h _ _ _ _ _ hr
  · exact orcB_ok _ _ _ _ _ ho
theorem tl_nil : ∀ x ∈ ([] : List Entry), EntryOK2 Tryz.prog x := fun x h => nomatch h
theorem tl_cons {e : Entry} {t : List Entry} (h : EntryOK2 Tryz.prog e) (ht : ∀ x ∈ t, EntryOK2 Tryz.prog x) : ∀ x ∈ e :: t, EntryOK2 Tryz.prog x := by
  intro x hx
  rcases List.mem_cons.1 hx with rfl | hx
  · exact h
  · exact ht x hx
end Go.Vm.Seat
