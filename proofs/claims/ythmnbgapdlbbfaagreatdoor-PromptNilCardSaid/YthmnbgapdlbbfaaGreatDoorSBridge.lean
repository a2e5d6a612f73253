/- From runs to the given rows: what all laws of the seat have alike. -/
import Derived.Test.YthmnbgapdlbbfaaGreatDoorRows
import Derived.ChangeSame
import Derived.ChangeVars
import Derived.JoinedOf
import Derived.RowKit
import Derived.RowKitTokens
import Derived.LaidLaws
import Derived.LaidHandle
import Derived.Carry
import Derived.Test.YthmnbgapdlbbfaaGreatDoorSNo
set_option linter.unusedSimpArgs false
set_option linter.unusedVariables false
open Go Go.Vm Go.Proofs Go.Proofs.YthmnbgapdlbbfaaGreatDoor
open Go.ChangeShapes Go.WideShapes Go.RowKit
namespace Go.Vm.Seat
section
variable {H : Type} {enc : TypeId × Value → H} {P : Program}
theorem post_of_below {f : Func} {s : ChangeSpec} {apart fresh handsOn again : Bool} {W W' : World} {args : Array Value} {v : Value} {ds gs : List (DataW H)} {before pa pv : List MemPlace}
    (hW : DataW.Whole enc P f.params.toList s.vars apart W args.toList ds gs before)
    (hres : ∀ (b : Nat) (sp : Nat → Bool) (hd : Bool), DataW.TrodAll enc P W' b sp hd f.resultTypes.toList (v.resultList f.resultTypes.size) (s.fn H (ds ++ gs)).results [])
    (hargs : ∀ sp : Nat → Bool, (∀ p ∈ before, sp p.block = true) → DataW.TrodAll enc P W' 0 sp true f.params.toList args.toList (s.fn H (ds ++ gs)).args pa)
    (hvars : ∀ sp : Nat → Bool, (∀ p ∈ before, sp p.block = true) → DataW.TrodVars enc P W' sp s.vars (s.fn H (ds ++ gs)).vars pv)
    (hps : before = pa ++ pv) (hb : Below W.heap.size W W')
    (hok : ∀ (j : Nat) (t : TypeId) (r : Value), f.resultTypes[j]? = some t → (v.resultList f.resultTypes.size)[j]? = some r → Value.okWide P W' .any 0 t r) :
    s.post enc P f apart fresh handsOn again W args v W' := by
  have hlt : ∀ p ∈ before, p.block < W.heap.size := fun p hp => hW.lt p hp
  have hold : ∀ p ∈ before, (fun b => decide (b < W.heap.size)) p.block = true := fun p hp => by simpa using hlt p hp
  refine ⟨ds, gs, before, [], pa, pv, hW, hres _ _ _, hargs _ hold, hvars _ hold, World.keptBut_mono (fun p hp => ⟨hp, ?_⟩) (hb.frame (· ∈ before)), fun _ => ?_⟩
  · rw [hps, List.mem_append] at hp
    exact Or.inr hp
  · obtain ⟨_, _, _, _, _, hz, hn⟩ := hW
    refine ⟨hok, _, _, ([] ++ pa) ++ pv, ⟨[] ++ pa, pv, trodAll_append (hargs _ (fun _ _ => rfl)) (hres _ _ _), hvars _ (fun _ _ => rfl), rfl, ?_, ?_⟩, ?_⟩
    · intro b off hp
      have hin : MemPlace.cell b off ∈ before := by rw [hps]; simpa using hp
      rw [hb.frozen (hlt _ hin)]
      exact hz b off hin
    · intro ha
      have := hn ha
      rw [hps] at this
      simpa using this
    · intro p hp _
      rw [hps]
      simpa using hp

theorem all_stay (hl : laidOutB P = true) {W W' : World} {sp : Nat → Bool} (hb : Below W.heap.size W W') : ∀ {ts : List TypeId} {vs : List Value} {ds : List (DataW H)} {ps : List MemPlace},
    (∀ t ∈ ts, P.readableRec t = true ∧ t < P.types.size) → DataW.TrodAll enc P W 0 (fun _ => true) true ts vs ds ps → (∀ x ∈ ps, x.block < W.heap.size) → (∀ x ∈ ps, sp x.block = true) → DataW.TrodAll enc P W' 0 sp true ts vs ds ps := by
  intro ts
  induction ts with
  | nil =>
    intro vs ds ps _ h _ _
    obtain ⟨rfl, rfl, rfl⟩ := trodAll_nil h
    exact trodAll_mk0
  | cons t ts ih =>
    intro vs ds ps ht h hlt hs
    obtain ⟨v, vs', d, ds', p, q, rfl, rfl, rfl, h1, h2⟩ := trodAll_cons h
    refine ⟨p, q, ?_, ?_, rfl⟩
    · exact (WideElems.Trod_stays hl (ht t (by simp)).1 (ht t (by simp)).2 h1 (fun x hx => hb.same (hlt x (by simp [hx]))) (fun x hx => hs x (by simp [hx])))
    · exact ih (fun u hu => ht u (by simp [hu])) h2 (fun x hx => hlt x (by simp [hx])) (fun x hx => hs x (by simp [hx]))

/-- A law: it answers true, and of what was there nothing has turned. -/
theorem law_post {f : Func} {s : ChangeSpec} {W W' : World} {args : Array Value} {ds gs : List (DataW H)} {before : List MemPlace} {b : TypeId} {apart fresh handsOn again : Bool}
    (hl : laidOutB P = true) (hp : ∀ t ∈ f.params.toList, P.readableRec t = true ∧ t < P.types.size) (hr : f.resultTypes = #[b]) (hbool : P.underlying b = some .bool) (hv : s.vars = [])
    (hs : s.fn H (ds ++ []) = { results := [.lit (.bool true)], args := ds })
    (hW : DataW.Whole enc P f.params.toList s.vars apart W args.toList ds gs before) (hb : Below W.heap.size W W') : s.post enc P f apart fresh handsOn again W args (.bool true) W' := by
  have hlt := hW.lt
  have hW0 := hW
  obtain ⟨p, q, hA, hV, rfl, hfz, hnd⟩ := hW0
  rw [hv] at hV
  obtain ⟨rfl, rfl⟩ := trodVars_none hV
  refine post_of_below (pa := p) (pv := []) hW ?_ ?_ ?_ rfl hb ?_
  · intro b' sp hd
    rw [hs, hr]
    exact trodAll_mk1 (shut_bool hbool true)
  · intro sp hsp
    rw [hs]
    exact all_stay hl hb hp hA (fun x hx => hlt x (by simp [hx])) (fun x hx => hsp x (by simp [hx]))
  · intro sp hsp
    rw [hs, hv]
    rfl
  · exact ok_one hr rfl (okWide_bool_mk hbool true)
end

/-- Calls whose run lies on blocks that nobody may write. -/
theorem calls_run {orc : Oracle} (hO : OrcOK Tryz.prog orc) {k : Nat} {f : FuncId} {args : List Value} {μ : Mem} {e : AExit} {B : Regs} {μ' : Mem} {v : Value} (h : ev Tryz.prog orc k none (.fn f args) μ = some (e, B, μ')) (hv : getR B 0 = v) (hp : plain v = true)
    {ρ : Go.Vm.Ren} {w : World} {args' : Array Value} (hm : MRel ρ μ.blks w) (hno : ∀ o ∈ μ.blks, owned o = false) (ha : LRel ρ args args'.toList) :
    Calls Tryz.prog f args' w fun en w' => en = .returned v ∧ Below w.heap.size w w' := by
  subst hv
  refine (callsIn_wide.1 ((sfn hO k _ _ _ _ _ _ _ h).2 0 ρ w args' hm ha)).mono fun en w' he => ?_
  cases en with
  | panicked ch => exact he.elim
  | outgrown => exact he.elim
  | returned v' =>
    obtain ⟨ρ', hv', hadv⟩ := he
    refine ⟨by rw [hv'.same hp], hadv.os, hadv.tape, hadv.output, hadv.size, fun r hr => hadv.keep r hr ?_⟩
    rintro ⟨b, o, p, hb, ho, _⟩
    rw [hno o (List.mem_of_getElem? hb)] at ho
    cases ho
end Go.Vm.Seat
namespace Go.Vm.Seat
def runV (r : Option Out) : Option Value := r.map fun x => getR x.2.1 0
theorem calls_runV {orc : Oracle} (hO : OrcOK Tryz.prog orc) {k : Nat} {f : FuncId} {args : List Value} {μ : Mem} {v : Value} (h : runV (ev Tryz.prog orc k none (.fn f args) μ) = some v) (hp : plain v = true)
    {ρ : Go.Vm.Ren} {w : World} {args' : Array Value} (hm : MRel ρ μ.blks w) (hno : ∀ o ∈ μ.blks, owned o = false) (ha : LRel ρ args args'.toList) :
    Calls Tryz.prog f args' w fun en w' => en = .returned v ∧ Below w.heap.size w w' := by
  unfold runV at h
  obtain ⟨⟨e, B, μ'⟩, h1, h2⟩ := Option.map_eq_some_iff.1 h
  exact calls_run hO h1 h2 hp hm hno ha
theorem and2 {a b : Bool} (ha : a = true) (hb : b = true) : (a && b) = true := by rw [ha, hb]; rfl
theorem own : ownKnob Tryz.prog.godebug = none := by kernel_rfl
theorem laidOut : laidOutB Tryz.prog = true := by kernel_rfl
/-- A datum's cells. -/
def flat : Nat → DataW Unit → List Value
  | _, .lit (.int k n) => [.int k n]
  | n + 1, .agg l => l.flatMap (flat n)
  | _, _ => []
def setC (d : DataW Unit) : Obj → Obj
  | .cells _ t fr => .cells (flat 3 d).toArray t fr
  | o => o
/-- A world in which the listed variables read as listed. -/
noncomputable def laidWorld (os : Os) : World :=
  { World.holding Tryz.prog os ⟨#[], #[], []⟩ with
    heap := ((((World.holding Tryz.prog os ⟨#[], #[], []⟩).heap.modify 0 (setC Rows.laid_unicode_utf8_first)).modify 1 (setC Rows.laid_unicode_utf8_acceptRanges)).modify 3 (setC Rows.laid_internal_strconv_uint64pow10)).modify 4 (setC Rows.laid_math_bits_deBruijn32tab) |>.modify 5 (setC Rows.laid_math_bits_deBruijn64tab) }
abbrev laidL : List (String × DataW Unit) := [("math/bits.deBruijn32tab", Rows.laid_math_bits_deBruijn32tab), ("math/bits.deBruijn64tab", Rows.laid_math_bits_deBruijn64tab), ("internal/strconv.uint64pow10", Rows.laid_internal_strconv_uint64pow10), ("unicode/utf8.acceptRanges", Rows.laid_unicode_utf8_acceptRanges), ("unicode/utf8.first", Rows.laid_unicode_utf8_first)]
theorem laid_met (os : Os) (args : Array Value) : laidMet Tryz.prog laidL ((laidWorld os).forCall (fun _ _ => 0) ⟨#[], args, []⟩).memory :=
  laidMet_of_run' 8 (by kernel_rfl) (by kernel_rfl)
theorem laid_metH (os : Os) (args : Array Value) : laidMetH Tryz.prog laidL ((laidWorld os).forCall (fun _ _ => 0) ⟨#[], args, []⟩).memory :=
  laidMetH_of_parts (laid_met os args) (by kernel_rfl)
end Go.Vm.Seat
