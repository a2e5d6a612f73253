/- The operations that enter no function: append, copy, clear. -/
import Derived.Test.YthmnbgapdlbbfaaGreatDoorVmOps6
set_option linter.unusedSimpArgs false
set_option linter.unusedVariables false
namespace Go.Vm
open Go.RowKit

variable {P : Program}

theorem sliceLen_rel {ρ : Ren} {v v' : Value} {n : Nat} (h : sliceLen v = some n) (hv : VRel ρ v v') (w : World) : (Builtin.lenOf v').run P w = .ok n w := by
  cases v with
  | string s =>
    simp [sliceLen] at h; subst h
    have := hv.same rfl; subst this
    simp [Builtin.lenOf]
  | slice a m c =>
    simp [sliceLen] at h; subst h
    cases hv with
    | lit h => simp [Builtin.lenOf]
    | exact h => simp [Builtin.lenOf]
    | loose h => simp [Builtin.lenOf]
  | _ => simp [sliceLen] at h

/-- Reading some elements. -/
theorem firstA_rel {ρ : Ren} {μ : Mem} {w : World} (h : MRel ρ μ.blks w) {sz n : Nat} {v v' : Value} {l : List Value} (hf : firstA μ sz n v = some l) (hv : VRel ρ v v') (hn : ∀ m, sliceLen v = some m → n ≤ m) :
    ∃ l' : List Value, LRel ρ l l' ∧ ((∀ s, v ≠ .string s) → l.length = n * sz) ∧ (∀ w' : World, (∀ k, k < w.heap.size → w'.heap[k]? = w.heap[k]?) → (Builtin.firstCells sz n v').run P w' = .ok l'.toArray w') ∧ (∀ u ∈ l, atomic u = true) := by
  cases v with
  | string s =>
    have e := hv.same rfl
    subst e
    simp only [firstA, Option.some.injEq] at hf
    subst hf
    have hns := hn s.size rfl
    refine ⟨(s.data.toList.take n).map fun b => .int .u8 b.toNat, ⟨rfl, fun i u u' hu hu' => ?_⟩, ?_, fun w' _ => ?_, fun u hu => ?_⟩
    · rw [hu] at hu'; injection hu' with hu'; subst hu'
      simp only [List.getElem?_map] at hu
      cases hx : (s.data.toList.take n)[i]? with
      | none => simp [hx] at hu
      | some c => simp [hx] at hu; subst hu; exact .lit rfl
    · exact fun hh => absurd rfl (hh s)
    · simp only [Builtin.firstCells, Sem.run_pure]
      congr 1
      cases s with
      | mk d =>
        apply Array.ext'
        simp [ByteArray.data_extract]
    · simp only [List.mem_map] at hu
      obtain ⟨c, _, rfl⟩ := hu
      rfl
  | slice a m c =>
    have hsl : ∃ x k d, vSlice (.slice a m c) = some (x, k, d) := by
      cases hx : vSlice (.slice a m c) with
      | none => simp [firstA, hx] at hf
      | some y => obtain ⟨x, k, d⟩ := y; exact ⟨x, k, d, rfl⟩
    obtain ⟨x, k, d, hsl⟩ := hsl
    simp only [firstA, hsl] at hf
    rcases vSlice_rel hsl hv with ⟨rfl, _, rfl⟩ | ⟨b, o, p, a', c', rfl, hρ, _, rfl, hcap⟩
    · simp only at hf
      by_cases h0 : n = 0
      · subst h0
        simp at hf; subst hf
        exact ⟨[], LRel.nil ρ, fun _ => by simp, fun w' _ => by simp [Builtin.firstCells], fun u hu => by simp at hu⟩
      · have : (n == 0) = false := by simp [h0]
        rw [this] at hf; cases hf
    · simp only at hf
      by_cases h0 : n * sz = 0
      · have : (n * sz == 0) = true := by simp [h0]
        rw [this, cond_true] at hf
        injection hf with hf; subst hf
        exact ⟨[], LRel.nil ρ, fun _ => by simp [h0], fun w' _ => by simp [Builtin.firstCells, h0, loadCells, loadCellsFrom], fun u hu => by simp at hu⟩
      · have : (n * sz == 0) = false := by simp [h0]
        rw [this, cond_false] at hf
        cases hc : cellsAt μ b with
        | none => simp [hc] at hf
        | some cs =>
          obtain ⟨wr, ez, hb⟩ := cellsAt_some hc
          simp only [hc, Option.bind_some] at hf
          obtain ⟨hl, hget⟩ := readN_some hf
          obtain ⟨l', k1, k2, k3, _⟩ := cells_rel h hb hρ hget
          have hn0 : 0 < n := by rcases Nat.eq_zero_or_pos n with h | h; simp [h] at h0; exact h
          have hm : n ≤ k := by
            have := hn m rfl
            cases a with
            | none => simp [vSlice] at hsl
            | some a =>
              simp only [vSlice] at hsl
              cases hao : aOf a with
              | none => simp [hao] at hsl
              | some y => simp [hao] at hsl; omega
          have hoff : a' = p.2 + o := by
            rcases hcap with ⟨_, _, h, _⟩ | ⟨q, _, h1, _, h2, _⟩
            · exact h
            · exact h2 (by omega)
          subst hoff
          refine ⟨l', k1, fun _ => hl, fun w' hw' => ?_, k3⟩
          have hlt := (h.obj b _ p hb hρ).lt rfl
          have hrun := run_loadCells_list (P := P) w' ⟨p.1, p.2 + o, none⟩ l' (fun j v hv => by
            rw [add_plain]
            have := k2 j v hv
            unfold World.cell? at this ⊢
            simp only [hw' p.1 hlt]
            exact this)
          rw [← k1.1, hl] at hrun
          simp only [Builtin.firstCells]
          exact hrun
  | _ => simp [firstA, vSlice] at hf

theorem one_all {ρ : Ren} {l l' : List Value} (h : LRel ρ l l') (ha : ∀ u ∈ l, atomic u = true) : ∀ v ∈ l', v.oneCell' = true := by
  intro v' hv'
  obtain ⟨i, hi, rfl⟩ := List.getElem_of_mem hv'
  have : i < l.length := by rw [h.1]; exact hi
  exact atomic_one (h.2 i l[i] l'[i] (by simp [this]) (by simp [hi])) (ha _ (by simp))

theorem growth {need old bs : Nat} (h : old < need) (hb : need * bs ≤ 2 ^ 47) : Builtin.nextslicecap need old * bs ≤ 2 ^ 48 := by
  have := growslice_fits h (bytes := bs) (by omega)
  omega

theorem seqA_cases {t : TypeId} (h : seqA P t = true) : (∃ e, und P t = some (.slice e)) ∨ und P t = some .string := by
  unfold seqA at h
  cases hu : und P t with
  | none => simp [hu] at h
  | some d =>
    cases d with
    | slice e => exact .inl ⟨e, rfl⟩
    | string => exact .inr rfl
    | _ => simp [hu] at h

set_option maxHeartbeats 1000000 in
/-- The model's append, where it makes a new array. -/
theorem append_new {w : World} {sT xT ty elem : TypeId} {i : TypeInfo} {z : Value} {base : Option Addr} {len cap n : Nat} {x : Value} {olds news : List Value}
    (hu : und P sT = some (.slice elem)) (hx : seqA P xT = true) (hi : P.info? elem = some i) (hz : i.zero = some z)
    (hl : (Builtin.lenOf x).run P w = .ok n w) (hgt : cap < len + n) (hb : (len + n) * i.bytes ≤ 2 ^ 47) (hn : len + n ≤ 2 ^ 47)
    (ho : (Builtin.firstCells i.size len (.slice base len cap)).run P w.drew = .ok olds.toArray w.drew) (hnw : (Builtin.firstCells i.size n x).run P w.drew = .ok news.toArray w.drew) :
    ∃ (newCap : Nat) (rest : List Value), len + n ≤ newCap ∧ rest.length = (newCap - (len + n)) * z.cells.size ∧ (Builtin.append_ #[sT, xT] ty #[.slice base len cap, x]).run P w = .ok (.slice (some ⟨w.heap.size, 0, none⟩) (len + n) newCap) (w.drew.alloc (.cells (olds ++ news ++ rest).toArray elem)) := by
  have h63 : ¬ ((9223372036854775807 : Int) < (len : Int) + (n : Int)) := by omega
  have hg := growth (bs := i.bytes) hgt hb
  have h48 : ¬ (281474976710656 < Builtin.nextslicecap (len + n) cap * i.bytes) := by omega
  have hnot : ¬ (len + n ≤ cap) := by omega
  refine ⟨grownCap w (len + n) cap elem, (Builtin.zeroCells z.cells (grownCap w (len + n) cap elem - (len + n))).toList, ?_, ?_, ?_⟩
  · simp only [grownCap, Question.cut]; omega
  · simp [Builtin.zeroCells]
  · rcases seqA_cases hx with ⟨e, hd⟩ | hd
    · have hr := und_run hd w
      simp [Builtin.append_, und_run hu, hr, sizeOf, typeInfo, zeroValue, hi, hz, hl, hnot, h63, h48, Question.forced, ho, hnw, newRow, grownCap]
      exact congrArg (fun c => w.drew.alloc (.cells c elem)) (Array.ext' (by simp))
    · have hr := und_run hd w
      simp [Builtin.append_, und_run hu, hr, sizeOf, typeInfo, zeroValue, hi, hz, hl, hnot, h63, h48, Question.forced, ho, hnw, newRow, grownCap]
      exact congrArg (fun c => w.drew.alloc (.cells c elem)) (Array.ext' (by simp))

set_option maxHeartbeats 1000000 in
/-- The model's append, where there is room. -/
theorem append_room {w w' : World} {sT xT ty elem : TypeId} {i : TypeInfo} {base : Option Addr} {len cap n : Nat} {x : Value} {news : List Value}
    (hu : und P sT = some (.slice elem)) (hx : seqA P xT = true) (hi : P.info? elem = some i)
    (hl : (Builtin.lenOf x).run P w = .ok n w) (hgt : len + n ≤ cap)
    (hnw : (Builtin.firstCells i.size n x).run P w = .ok news.toArray w)
    (hst : ∀ a, base = some a → (storeCells (a.add (len * i.size)) news).run P w = .ok () w') (hno : base = none → w' = w) :
    (Builtin.append_ #[sT, xT] ty #[.slice base len cap, x]).run P w = .ok (.slice base (len + n) cap) w' := by
  rcases seqA_cases hx with ⟨e, hd⟩ | hd
  · have hr := und_run hd w
    cases base with
    | none => have := hno rfl; subst this; simp [Builtin.append_, und_run hu, hr, sizeOf, typeInfo, hi, hl, hgt, hnw]
    | some a => have := hst a rfl; simp [Builtin.append_, und_run hu, hr, sizeOf, typeInfo, hi, hl, hgt, hnw, this]
  · have hr := und_run hd w
    cases base with
    | none => have := hno rfl; subst this; simp [Builtin.append_, und_run hu, hr, sizeOf, typeInfo, hi, hl, hgt, hnw]
    | some a => have := hst a rfl; simp [Builtin.append_, und_run hu, hr, sizeOf, typeInfo, hi, hl, hgt, hnw, this]

end Go.Vm
