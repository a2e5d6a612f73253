/- shuttlelaw30.PromptNil: the statement. -/
import Derived.Test.YthmnbgapdlbbfaaGreatDoorSTb61
import Derived.Test.YthmnbgapdlbbfaaGreatDoorSFactsPN
import Derived.Test.YthmnbgapdlbbfaaGreatDoorSFactsPN2
import Derived.Test.YthmnbgapdlbbfaaGreatDoorCards
import Derived.Test.YthmnbgapdlbbfaaGreatDoorTie
import Derived.SevenTiedAt
set_option linter.unusedSimpArgs false
set_option linter.unusedVariables false
open Go Go.Vm Go.Proofs Go.Proofs.YthmnbgapdlbbfaaGreatDoor
open Go.ChangeShapes Go.WideShapes Go.RowKit
namespace Go.Vm.Seat
set_option maxRecDepth 100000
theorem orcE_ok : OrcOK Tryz.prog (orcT [e61]) := orcT_ok (tl_cons e61_ok tl_nil)
theorem pnil_nil (a b : ByteArray) : runV (ev Tryz.prog (orcT [e61]) 3000 none (.fn 12 [.agg #[.string a, .string b, .slice none 0 0]]) ⟨[], big⟩) = some (.bool true) := by kernel_rfl
theorem pnil_some (a b : ByteArray) (n c : Nat) : runV (ev Tryz.prog (orcT [e61]) 3000 none (.fn 12 [.agg #[.string a, .string b, .slice (some ⟨0, 0, none⟩) n c]]) ⟨[.dead], big⟩) = some (.bool true) := by kernel_rfl
/-- A slice that came in. -/
theorem open_sl {W : World} {base : Nat} {t e : TypeId} {v : Value} (ht : Tryz.prog.underlying t = some (.slice e)) (h : Cell.okWide Tryz.prog W .any base t v) :
    v = .slice none 0 0 ∨ ∃ b o n c, v = .slice (some ⟨b, o, none⟩) n c ∧ n ≤ c ∧ c < big := by
  have h1 : Cell.ok Tryz.prog W .any base t v := by
    unfold Cell.okWide at h
    rw [ht] at h
    exact h
  unfold Cell.ok at h1
  rw [ht] at h1
  cases v with
  | slice a n c =>
    cases a with
    | none =>
      cases n with
      | succ n => exact h1.elim
      | zero =>
        cases c with
        | succ c => exact h1.elim
        | zero => exact .inl rfl
    | some a =>
      obtain ⟨b, o, sp⟩ := a
      obtain ⟨k1, k2, k3⟩ := h1
      obtain ⟨_, k4, _⟩ := k3
      change sp = none at k4
      subst k4
      refine .inr ⟨b, o, n, c, rfl, k1, ?_⟩
      have : IntKind.max .i64 = 9223372036854775807 := by decide
      rw [this] at k2
      unfold big
      omega
  | _ => exact h1.elim
theorem open_str {W : World} {base : Nat} {t : TypeId} {v : Value} (ht : Tryz.prog.underlying t = some .string) (h : Cell.okWide Tryz.prog W .any base t v) : ∃ s, v = .string s := by
  have h1 : Cell.ok Tryz.prog W .any base t v := by
    unfold Cell.okWide at h
    rw [ht] at h
    exact h
  unfold Cell.ok at h1
  rw [ht] at h1
  cases v with
  | string s => exact ⟨s, rfl⟩
  | _ => exact h1.elim
theorem cells115 : Tryz.prog.cellTypes Tryz.prog.depth 115 = some [9, 9, 110] := by kernel_rfl
theorem size115 : Tryz.prog.cellsOf 115 = 3 := by kernel_rfl
theorem open_step {W : World} {base : Nat} {v : Value} (h : Value.okWide Tryz.prog W .any base 115 v) :
    ∃ a b s, v = .agg #[.string a, .string b, s] ∧ (s = .slice none 0 0 ∨ ∃ bl o n c, s = .slice (some ⟨bl, o, none⟩) n c ∧ n ≤ c ∧ c < big) := by
  unfold Value.okWide at h
  rw [show Tryz.prog.underlying 115 = some (.struct _) from Tryz.underlying115] at h
  obtain ⟨cs, rfl, hs, ts, ht, _, hc⟩ := h
  rw [cells115] at ht
  injection ht with ht
  subst ht
  rw [size115] at hs
  obtain ⟨u0, e0, k0⟩ := hc 0 cs[0] (by simp [hs])
  obtain ⟨u1, e1, k1⟩ := hc 1 cs[1] (by simp [hs])
  obtain ⟨u2, e2, k2⟩ := hc 2 cs[2] (by simp [hs])
  simp at e0 e1 e2
  subst e0 e1 e2
  obtain ⟨a, ha⟩ := open_str (by kernel_rfl) k0
  obtain ⟨b, hb⟩ := open_str (by kernel_rfl) k1
  refine ⟨a, b, cs[2], ?_, open_sl (e := 9) (by kernel_rfl) k2⟩
  congr 1
  apply Array.ext
  · simp [hs]
  · intro i hi1 hi2
    match i, hi1 with
    | 0, _ => exact ha
    | 1, _ => exact hb
    | 2, _ => rfl
    | i + 3, h => omega
theorem pnil_calls {W : World} {base : Nat} {v : Value} (h : Value.okWide Tryz.prog W .any base 115 v) : Calls Tryz.prog 12 #[v] W fun e W' => e = .returned (.bool true) ∧ Below W.heap.size W W' := by
  obtain ⟨a, b, s, rfl, hs⟩ := open_step h
  rcases hs with rfl | ⟨bl, o, n, c, rfl, h1, h2⟩
  · exact calls_runV orcE_ok (pnil_nil a b) rfl (ρ := []) ⟨rfl, fun b o p hb => (by cases hb), fun b c o x p q _ hb => (by cases hb)⟩ (fun o ho => (by cases ho))
      (.cons (.of_plain _ rfl) (LRel.nil _))
  · refine calls_runV orcE_ok (pnil_some a b n c) rfl (ρ := [⟨bl, o, 0, 0⟩]) ⟨rfl, fun b o p hb _ => ?_, fun b c o x p q hne hb hc ho => ?_⟩ (fun o ho => by simp at ho; subst ho; rfl) (.cons ?_ (LRel.nil _))
    · cases b with
      | zero => simp at hb; subst hb; trivial
      | succ b => simp at hb
    · cases b with
      | zero => simp at hb; subst hb; cases ho
      | succ b => simp at hb
    · refine VRel.agg_l (x := [.string a, .string b, .slice (some ⟨0, 0, none⟩) n c]) (y := [.string a, .string b, .slice (some ⟨bl, o, none⟩) n c]) (.cons (.of_plain _ rfl) (.cons (.of_plain _ rfl) (.cons ?_ (LRel.nil _))))
      exact VRel.exact (p := ⟨bl, o, 0, 0⟩) rfl h2 h1
theorem pnil_lifted (os : Os) (started : os.Started) (H : Type) (enc : TypeId × Value → H) :
    ReturnsInHanded {} Tryz.checked os 12 .any (fun w args => (Rows.promptNilSpec.pre enc Tryz.prog Tryz.f12 [] false w args ∧ laidMetH Tryz.prog Rows.promptNilRow.laid w) ∧ sizedMet enc Tryz.prog Tryz.f12 (OpenSpec.ofChange Rows.promptNilSpec) false w args)
      (Rows.promptNilSpec.post enc Tryz.prog Tryz.f12 false true false false) := by
  refine returnsInHanded_of_change_and (C := Tryz.checked) (X := fun w _ => laidMetH Tryz.prog Rows.promptNilRow.laid w) (fun _ _ _ hh h => h.of_heap hh) own started (by kernel_rfl) Tryz.func12
    (ChangeSpec.witness_at (enc := enc) (C := Tryz.checked) (os := os) (X := fun w _ => laidMetH Tryz.prog Rows.promptNilRow.laid w) false (laidWorld os) #[.agg #[.string ⟨#[]⟩, .string ⟨#[]⟩, .slice none 0 0]] 8 rfl (by kernel_rfl) (by kernel_rfl) (by kernel_rfl) (by kernel_rfl) (by kernel_rfl) (laid_metH os _)) ?_
  intro W base args ds gs before hval hW _ _ hL _
  have hW0 := hW
  obtain ⟨p, q, hA, _⟩ := hW0
  rw [show Tryz.f12.params.toList = [115] from rfl] at hA
  obtain ⟨v0, d0, rfl, rfl, h0⟩ := trodAll_one hA
  refine (pnil_calls (hval 0 115 v0 rfl rfl)).mono fun e W' ⟨he, hb⟩ => ⟨_, he, ?_⟩
  exact law_post (b := 4) laidOut (by intro t ht; simp at ht; subst ht; exact ⟨by kernel_rfl, of_decide_eq_true (by kernel_rfl)⟩) rfl Tryz.underlying4 rfl rfl hW hb
theorem promptNil_said : Rows.PromptNilSaid :=
  OpenClaim.holds_of_wide 12 Tryz.f12 rfl rfl rfl rfl rfl rfl rfl ⟨rfl, rfl, rfl, rfl, rfl⟩ rfl rfl rfl rfl rfl (by kernel_rfl) Tryz.func12 promptNil_closed
    (of_decide_eq_true (by kernel_rfl)) (by unfold Func.isWrapper; rw [if_neg (of_decide_eq_false (by kernel_rfl))]; exact ⟨rfl, rfl⟩)
    (fun os started H enc _ => pnil_lifted os started H enc)
theorem promptNil_card : Rows.PromptNilCardSaid :=
  Claim7.holds_tied_plain_at .later [] [.data, .data, .data, .data, .pinned] true (true, "f2e953554dd28101e899f3e1a8b8eaf32c46ae32fc98ade4c69040696f0dbb4b") true
    promptNil_said (fun _ h => by cases h) promptNil_wf (fun _ h => by cases h) promptNil_row_tie rfl ⟨rfl, rfl⟩ c_main rfl
    (fun f fn hf hfn => by
      obtain rfl : f = 12 := Option.some.inj (promptNil_named.symm.trans hf) |>.symm
      obtain rfl : fn = Tryz.f12 := (Option.some.inj (Tryz.func12.symm.trans hfn)).symm
      exact ⟨c_looks, fun j t ht => by
        rw [show Tryz.f12.params = #[115] from rfl] at ht
        have h3 : t = 115 := by
          rcases j with _ | j
          · simpa using ht.symm
          · simp at ht
        subst h3
        exact want115⟩)
    promptNil_goes
end Go.Vm.Seat
