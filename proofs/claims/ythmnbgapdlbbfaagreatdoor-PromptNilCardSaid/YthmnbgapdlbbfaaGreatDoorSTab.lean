/- The class tables' functions: run by the kernel at an open character, class.find as an oracle. -/
import Derived.Test.YthmnbgapdlbbfaaGreatDoorSFind
import Derived.Test.YthmnbgapdlbbfaaGreatDoorSNo
set_option linter.unusedSimpArgs false
set_option linter.unusedVariables false
open Go Go.Vm Go.Proofs
namespace Go.Vm.Seat
def decT : List Value → Option (List (Nat × Nat))
  | [] => some []
  | .int .i32 (.ofNat f) :: .int .u8 (.ofNat k) :: l => (decT l).map fun t => (f, k) :: t
  | _ => none
def findO (args : List Value) (μ : Mem) : Option (Value × Mem) :=
  match args with
  | [.slice (some ⟨b, 0, none⟩) n _, .int .i32 r] =>
    match μ.get b with
    | some (.cells l _ _) => (decT l).bind fun t => bif okT t && Nat.beq t.length n && Nat.ble μ.low big then some (.tuple #[.int .u8 (classOf t r).1, .int .i32 (classOf t r).2], μ) else none
    | _ => none
  | _ => none
def orcFind : Oracle := fun f args μ => bif Nat.beq f 280 then findO args μ else none
theorem decT_cells : ∀ (n : Nat) (l : List Value), l.length ≤ n → ∀ t, decT l = some t → l = tabCells t := by
  intro n
  induction n with
  | zero =>
    intro l hl t h
    cases l with
    | nil => simp [decT] at h; subst h; rfl
    | cons => simp at hl
  | succ n ih =>
    intro l hl t h
    unfold decT at h
    split at h
    · injection h with h; subst h; rfl
    · rename_i f k l
      obtain ⟨t', h1, rfl⟩ := Option.map_eq_some_iff.1 h
      rw [ih l (by simp at hl; omega) t' h1]
      rfl
    · cases h
def noOrc : Oracle := fun _ _ _ => none
theorem noOrc_ok : OrcOK Tryz.prog noOrc := fun f args μ v μ' h => by cases h
/-- What a call comes to without fuel, for the model. -/
theorem ret_calls {orc : Oracle} (hO : OrcOK Tryz.prog orc) {g : FuncId} {args : List Value} {μ : Mem} {v : Value} {μ' : Mem} (h : Ret Tryz.prog orc g args μ v μ') :
    (∃ fn c, Tryz.prog.funcs[g]? = some fn ∧ fn.body = some c) ∧ ∀ n ρ w (args' : Array Value), MRel ρ μ.blks w → LRel ρ args args'.toList → CallsIn Fence.wide n Tryz.prog g args' w (EndsV ρ μ w μ' v) := by
  obtain ⟨k, hk⟩ := evw_fuel h
  exact sfn hO k _ _ _ _ _ _ _ hk
theorem orcFind_ok : OrcOK Tryz.prog orcFind := by
  intro f args μ v μ' h
  unfold orcFind at h
  cases hf : Nat.beq f 280 with
  | false => rw [hf] at h; cases h
  | true =>
    rw [hf, cond_true] at h
    have e : f = 280 := Nat.eq_of_beq_eq_true hf
    subst e
    unfold findO at h
    split at h
    · rename_i b n c r
      split at h
      · rename_i l wr e hb
        obtain ⟨t, ht, h⟩ := Option.bind_eq_some_iff.1 h
        cases hc : (okT t && Nat.beq t.length n && Nat.ble μ.low big) with
        | false => rw [hc] at h; cases h
        | true =>
          rw [hc, cond_true] at h
          injection h with h
          injection h with h1 h2
          subst h1 h2
          simp only [Bool.and_eq_true] at hc
          have hl := decT_cells _ l (Nat.le_refl _) t ht
          subst hl
          have hn : t.length = n := Nat.eq_of_beq_eq_true hc.1.2
          subst hn
          exact ret_calls noOrc_ok (find_ret (orc := noOrc) (fun _ _ => rfl) hb hc.1.1 (by simpa using hc.2) r)
      · cases h
    · cases h
/-- A class table's function. -/
def clsO (t : List (Nat × Nat)) (args : List Value) (μ : Mem) : Option (Value × Mem) :=
  match args with
  | [.int .i32 r] => some (.tuple #[.int .u8 (classOf t r).1, .int .i32 (classOf t r).2], μ)
  | _ => none
theorem clsO_ok {f : FuncId} {t : List (Nat × Nat)} (h : ∀ r, entryOf f [.val (.int .i32 r)] (ev Tryz.prog orcFind 3000 none (.fn f [.int .i32 r]) ⟨[], big⟩) = some ⟨f, [.val (.int .i32 r)], .tuple #[.int .u8 (classOf t r).1, .int .i32 (classOf t r).2], []⟩) :
    ∀ args μ v μ', clsO t args μ = some (v, μ') → (∃ fn c, Tryz.prog.funcs[f]? = some fn ∧ fn.body = some c) ∧
      ∀ n ρ w (args' : Array Value), MRel ρ μ.blks w → LRel ρ args args'.toList → CallsIn Fence.wide n Tryz.prog f args' w (EndsV ρ μ w μ' v) := by
  intro args μ v μ' ho
  unfold clsO at ho
  split at ho
  · rename_i r
    injection ho with ho
    injection ho with h1 h2
    subst h1 h2
    obtain ⟨k1, k2⟩ := entry_ok (sfn orcFind_ok 3000) (h r)
    refine ⟨k1, fun n ρ w args' hm hl => k2 n ρ μ w _ args' _ _ ?_ ?_ hm hl⟩
    · simp [argsOk, argOk, sameV]
    · simp [Entry.put, runBlks, upN, plain, plainN]
  · cases ho
theorem kinds_run (r : Int) : entryOf 227 [.val (.int .i32 r)] (ev Tryz.prog orcFind 3000 none (.fn 227 [.int .i32 r]) ⟨[], big⟩) = some ⟨227, [.val (.int .i32 r)], .tuple #[.int .u8 (classOf kindsT r).1, .int .i32 (classOf kindsT r).2], []⟩ := by kernel_rfl
theorem widths_run (r : Int) : entryOf 303 [.val (.int .i32 r)] (ev Tryz.prog orcFind 3000 none (.fn 303 [.int .i32 r]) ⟨[], big⟩) = some ⟨303, [.val (.int .i32 r)], .tuple #[.int .u8 (classOf widthsT r).1, .int .i32 (classOf widthsT r).2], []⟩ := by kernel_rfl
theorem breaks_run (r : Int) : entryOf 214 [.val (.int .i32 r)] (ev Tryz.prog orcFind 3000 none (.fn 214 [.int .i32 r]) ⟨[], big⟩) = some ⟨214, [.val (.int .i32 r)], .tuple #[.int .u8 (classOf breaksT r).1, .int .i32 (classOf breaksT r).2], []⟩ := by kernel_rfl
theorem dirs_run (r : Int) : entryOf 215 [.val (.int .i32 r)] (ev Tryz.prog orcFind 3000 none (.fn 215 [.int .i32 r]) ⟨[], big⟩) = some ⟨215, [.val (.int .i32 r)], .tuple #[.int .u8 (classOf dirsT r).1, .int .i32 (classOf dirsT r).2], []⟩ := by kernel_rfl
theorem joins_run (r : Int) : entryOf 403 [.val (.int .i32 r)] (ev Tryz.prog orcFind 3000 none (.fn 403 [.int .i32 r]) ⟨[], big⟩) = some ⟨403, [.val (.int .i32 r)], .tuple #[.int .u8 (classOf joinsT r).1, .int .i32 (classOf joinsT r).2], []⟩ := by kernel_rfl
def orcC : Oracle := fun f args μ =>
  bif Nat.beq f 227 then clsO kindsT args μ else bif Nat.beq f 303 then clsO widthsT args μ else bif Nat.beq f 214 then clsO breaksT args μ
  else bif Nat.beq f 215 then clsO dirsT args μ else bif Nat.beq f 403 then clsO joinsT args μ else none
theorem orcC_ok : OrcOK Tryz.prog orcC := by
  intro f args μ v μ' h
  unfold orcC at h
  cases h1 : Nat.beq f 227 with
  | true => rw [h1, cond_true] at h; rw [Nat.eq_of_beq_eq_true h1]; exact clsO_ok kinds_run _ _ _ _ h
  | false =>
    rw [h1, cond_false] at h
    cases h2 : Nat.beq f 303 with
    | true => rw [h2, cond_true] at h; rw [Nat.eq_of_beq_eq_true h2]; exact clsO_ok widths_run _ _ _ _ h
    | false =>
      rw [h2, cond_false] at h
      cases h3 : Nat.beq f 214 with
      | true => rw [h3, cond_true] at h; rw [Nat.eq_of_beq_eq_true h3]; exact clsO_ok breaks_run _ _ _ _ h
      | false =>
        rw [h3, cond_false] at h
        cases h4 : Nat.beq f 215 with
        | true => rw [h4, cond_true] at h; rw [Nat.eq_of_beq_eq_true h4]; exact clsO_ok dirs_run _ _ _ _ h
        | false =>
          rw [h4, cond_false] at h
          cases h5 : Nat.beq f 403 with
          | true => rw [h5, cond_true] at h; rw [Nat.eq_of_beq_eq_true h5]; exact clsO_ok joins_run _ _ _ _ h
          | false => rw [h5] at h; cases h
end Go.Vm.Seat
