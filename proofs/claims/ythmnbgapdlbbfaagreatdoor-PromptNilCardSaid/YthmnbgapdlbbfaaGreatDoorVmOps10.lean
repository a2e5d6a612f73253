/- The operations that enter no function: conversions to strings, maps, iterators. -/
import Derived.Test.YthmnbgapdlbbfaaGreatDoorVmOps9
import Derived.Laws.BytesString
import Derived.Laws.Cover4
import Derived.MapKept
set_option linter.unusedSimpArgs false
set_option linter.unusedVariables false
namespace Go.Vm
open Go.RowKit

variable {P : Program}

theorem vInt_some {v : Value} {k : IntKind} {n : Int} (h : vInt v = some (k, n)) : v = .int k n := by
  cases v <;> simp [vInt] at h
  obtain ⟨rfl, rfl⟩ := h
  rfl

theorem bytesText_some : ∀ (l : List Value) (t : List UInt8), bytesText l = some t → ∃ ns : List Int, l = ns.map (Value.int .u8) ∧ t = ns.map fun n => UInt8.ofNat n.toNat := by
  intro l
  induction l with
  | nil => intro t h; simp [bytesText] at h; subst h; exact ⟨[], rfl, rfl⟩
  | cons v r ih =>
    intro t h
    unfold bytesText at h
    split at h
    · rename_i n hv
      cases hr : bytesText r with
      | none => simp [hr] at h
      | some t' =>
        simp [hr] at h
        obtain ⟨ns, h1, h2⟩ := ih t' hr
        exact ⟨n :: ns, by simp [vInt_some hv, h1], by simp [← h, h2]⟩
    · cases h

theorem runesText_some : ∀ (l : List Value) (t : List UInt8), runesText l = some t → ∃ ns : List Int, l = ns.map (Value.int .i32) ∧ t = ns.flatMap fun n => (Utf8.encode n).data.toList := by
  intro l
  induction l with
  | nil => intro t h; simp [runesText] at h; subst h; exact ⟨[], rfl, rfl⟩
  | cons v r ih =>
    intro t h
    unfold runesText at h
    split at h
    · rename_i n hv
      cases hr : runesText r with
      | none => simp [hr] at h
      | some t' =>
        simp [hr] at h
        obtain ⟨ns, h1, h2⟩ := ih t' hr
        exact ⟨n :: ns, by simp [vInt_some hv, h1], by simp [← h, h2]⟩
    · cases h

theorem push_all (ns : List Int) : ∀ s : ByteArray, ns.foldl (fun r n => r.push (UInt8.ofNat n.toNat)) s = ⟨(s.data.toList ++ ns.map fun n => UInt8.ofNat n.toNat).toArray⟩ := by
  induction ns with
  | nil => intro s; simp
  | cons n ns ih =>
    intro s
    rw [List.foldl_cons, ih]
    simp [ByteArray.push]
theorem runes_all (ns : List Int) : ∀ s : ByteArray, ns.foldl (fun r n => r ++ Utf8.encode n) s = ⟨(s.data.toList ++ ns.flatMap fun n => (Utf8.encode n).data.toList).toArray⟩ := by
  induction ns with
  | nil => intro s; simp
  | cons n ns ih =>
    intro s
    rw [List.foldl_cons, ih]
    simp [ByteArray.data_append]

theorem lits_same {ρ : Ren} {l l' : List Value} (h : LRel ρ l l') (hl : ∀ v ∈ l, litV v = true) : l' = l := by
  apply List.ext_getElem?
  intro i
  cases hx : l[i]? with
  | none =>
    rw [List.getElem?_eq_none_iff] at hx ⊢
    have := h.1
    omega
  | some v =>
    obtain ⟨v', h1, h2⟩ := h.get hx
    rw [h1, h2.same (litV_plain (hl v (List.mem_of_getElem? hx)))]

theorem toStr_run {w : World} {ρ : Ren} {μ μ' : Mem} (hm : MRel ρ μ.blks w) {src dst : TypeId} {a : Option Addr} {n0 c : Nat} {x' v : Value} (hd : und P dst = some .string)
    (h : toStr P μ src (.slice a n0 c) = some (v, μ')) (hx : VRel ρ (.slice a n0 c) x') : (convert src dst x').run P w = .ok v w ∧ litV v = true ∧ μ' = μ := by
  unfold toStr at h
  cases he : elemA P src with
  | none => simp [he] at h
  | some e =>
    have hs := elemA_und he
    simp only [he, Option.bind_some, sliceLen] at h
    cases hf : firstA μ 1 n0 (.slice a n0 c) with
    | none => simp [hf] at h
    | some l =>
      simp only [hf, Option.bind_some] at h
      obtain ⟨l', hl, _, hrun, _⟩ := firstA_rel (P := P) hm hf hx (fun m hm' => by simp [sliceLen] at hm'; omega)
      have hrun := hrun w fun _ _ => rfl
      have hsl : ∃ a' c', x' = .slice a' n0 c' := by
        cases hx with
        | lit h => exact ⟨_, _, rfl⟩
        | exact h => exact ⟨_, _, rfl⟩
        | loose h => exact ⟨_, _, rfl⟩
      obtain ⟨a', c', rfl⟩ := hsl
      cases hk : intA P e with
      | none => simp [hk] at h
      | some k =>
        have hue := intA_und hk
        simp only [hk] at h
        cases k <;> simp only at h <;> try (cases h; done)
        case u8 =>
          cases ht : bytesText l with
          | none => simp [ht] at h
          | some t =>
            simp [ht] at h
            obtain ⟨rfl, rfl⟩ := h
            obtain ⟨ns, rfl, rfl⟩ := bytesText_some _ _ ht
            have e1 := lits_same hl (fun v hv => by simp at hv; obtain ⟨_, _, rfl⟩ := hv; rfl)
            subst e1
            refine ⟨?_, rfl, rfl⟩
            rw [run_convert_bytes_string w src dst e a' n0 c' hs hue hd]
            cases a' with
            | none =>
              have hns : ns = [] := by
                have := hrun
                simp [Builtin.firstCells] at this
                simpa using this
              subst hns
              simp [Conv.bytesToString]; rfl
            | some a' =>
              have h2 : (loadCells a' n0).run P w = .ok (ns.map (Value.int .u8)).toArray w := by
                have := hrun
                simp only [Builtin.firstCells] at this
                simpa using this
              rw [run_bytesToString w a' n0 c' ns h2, push_all]
              simp
        case i32 =>
          cases ht : runesText l with
          | none => simp [ht] at h
          | some t =>
            simp [ht] at h
            obtain ⟨rfl, rfl⟩ := h
            obtain ⟨ns, rfl, rfl⟩ := runesText_some _ _ ht
            have e1 := lits_same hl (fun v hv => by simp at hv; obtain ⟨_, _, rfl⟩ := hv; rfl)
            subst e1
            refine ⟨?_, rfl, rfl⟩
            rw [run_convert_runes_string w src dst e a' n0 c' hs hue hd]
            cases a' with
            | none =>
              have hns : ns = [] := by
                have := hrun
                simp [Builtin.firstCells] at this
                simpa using this
              subst hns
              simp [Conv.runesToString]; rfl
            | some a' =>
              have h2 : (loadCells a' n0).run P w = .ok (ns.map (Value.int .i32)).toArray w := by
                have := hrun
                simp only [Builtin.firstCells] at this
                simpa using this
              rw [run_runesToString w a' n0 c' ns h2]
              unfold runesBytes
              rw [runes_all]
              simp

theorem convertA_sound {w : World} {ρ : Ren} {μ μ' : Mem} (hm : MRel ρ μ.blks w) {src dst : TypeId} {x x' v : Value} (h : convertA P μ src dst x = some (v, μ')) (hx : VRel ρ x x') :
    ∃ ρ' v' w', (convert src dst x').run P w = .ok v' w' ∧ VRel ρ' v v' ∧ Adv ρ μ w ρ' μ' w' := by
  unfold convertA at h
  split at h
  · rename_i k n
    have e := hx.same rfl
    subst e
    cases hu : und P dst with
    | none => simp [hu] at h
    | some d =>
      simp only [hu] at h
      cases hs : und P src with
      | none => cases d <;> simp [hs] at h
      | some s =>
        have r1 := und_run hs w
        have r2 := und_run hu w
        cases d <;> simp [hs] at h
        case int k' =>
          obtain ⟨rfl, rfl⟩ := h
          exact ⟨ρ, _, w, by simp [convert, r1, r2, Conv.intToInt], .lit rfl, Adv.refl hm⟩
        case string =>
          obtain ⟨rfl, rfl⟩ := h
          exact ⟨ρ, _, w, by simp [convert, r1, r2, Conv.intToString], .lit rfl, Adv.refl hm⟩
  · rename_i s
    have e := hx.same rfl
    subst e
    cases hs : und P src with
    | none => simp [hs] at h
    | some d =>
      simp only [hs, Option.bind_some] at h
      exact strTo_sound hm hs h
  · rename_i a n c
    cases hd : isStrA P dst with
    | false => simp [hd] at h
    | true =>
      simp only [hd, cond_true] at h
      obtain ⟨h1, h2, rfl⟩ := toStr_run hm (isStrA_und hd) h hx
      exact ⟨ρ, v, w, h1, .lit h2, Adv.refl hm⟩
  · cases h

/-! ### Maps -/
theorem keyEq_now {kind : TypeDesc} {k k' : Value} {b : Bool} (hk : (∃ q, kind = .int q) ∧ (vInt k).isSome = true ∨ kind = .string ∧ (vStr k).isSome = true) (h : keyEq k k' = some b) :
    Instr.sameNow kind k k' = some b ∧ (b = true → Instr.sameBits 10000 k' k = true) := by
  rcases hk with ⟨⟨q, rfl⟩, hk⟩ | ⟨rfl, hk⟩
  · cases k with
    | int q1 a =>
      cases hv : vInt k' with
      | none => simp [keyEq, hv] at h
      | some y =>
        obtain ⟨q2, a2⟩ := y
        have := vInt_some hv
        subst this
        simp only [keyEq, hv, Option.bind_some] at h
        by_cases hq : q1 = q2
        · subst hq
          simp at h
          subst h
          refine ⟨by simp [Instr.sameNow], fun hb => ?_⟩
          simp at hb
          subst hb
          simp [Instr.sameBits]
        · have : (q1 == q2) = false := by simp [hq]
          rw [this] at h; cases h
    | _ => simp [vInt] at hk
  · cases k with
    | string a =>
      cases hv : vStr k' with
      | none => simp [keyEq, hv] at h
      | some c =>
        have hc : k' = .string c := by cases k' <;> simp [vStr] at hv; subst hv; rfl
        subst hc
        simp [keyEq, vStr] at h
        have h0 := h
        rw [strEq_eq] at h
        refine ⟨by simp [Instr.sameNow, h], fun hb => ?_⟩
        subst hb
        have h1 : strEq c a = true := by
          unfold strEq at h0 ⊢
          simp only [beq_iff_eq] at h0 ⊢
          exact h0.symm
        rw [strEq_eq] at h1
        exact h1
    | _ => simp [vStr] at hk

theorem findA_now {ρ : Ren} {kind : TypeDesc} {k : Value} (hk : (∃ q, kind = .int q) ∧ (vInt k).isSome = true ∨ kind = .string ∧ (vStr k).isSome = true) :
    ∀ (es : List (Value × Value)) (ES : List MapEntry) (i : Nat) (r : Option (Nat × Value)), findA k es i = some r → ES.length = es.length →
      (∀ (j : Nat) (q v : Value), es[j]? = some (q, v) → ∃ e : MapEntry, ES[j]? = some e ∧ e.key = q ∧ plain q = true ∧ VRel ρ v e.val) →
      ∃ r', Instr.findNow kind k ES i = some r' ∧ (r = none → r' = none) ∧
        ∀ j v, r = some (j, v) → ∃ v' e, r' = some (j, v') ∧ VRel ρ v v' ∧ i ≤ j ∧ ES[j - i]? = some e ∧ Instr.sameBits 10000 e.key k = true := by
  intro es
  induction es with
  | nil =>
    intro ES i r h hl _
    have : ES = [] := List.length_eq_zero_iff.1 hl
    subst this
    simp [findA] at h
    subst h
    exact ⟨none, rfl, fun _ => rfl, fun j v h => by cases h⟩
  | cons x es ih =>
    obtain ⟨q, v⟩ := x
    intro ES i r h hl hget
    cases ES with
    | nil => simp at hl
    | cons E ES =>
      obtain ⟨e, he, hek, hp, hv⟩ := hget 0 q v rfl
      simp at he
      subst he
      unfold findA at h
      cases hq : keyEq k q with
      | none => simp [hq] at h
      | some b =>
        obtain ⟨hs, hsb⟩ := keyEq_now hk hq
        unfold Instr.findNow
        rw [hek, hs]
        cases b with
        | true =>
          simp [hq] at h
          subst h
          refine ⟨_, rfl, (fun h => by cases h), fun j u h => ?_⟩
          injection h with h
          injection h with h1 h2
          subst h1 h2
          exact ⟨_, E, rfl, hv, Nat.le_refl _, by simp, by rw [hek]; exact hsb rfl⟩
        | false =>
          simp [hq] at h
          obtain ⟨r', k1, k2, k3⟩ := ih ES (i + 1) r h (by simpa using hl) (fun j q v hj => by
            have := hget (j + 1) q v (by simpa using hj)
            simpa using this)
          refine ⟨r', k1, k2, fun j u h => ?_⟩
          obtain ⟨v', e, h1, h2, h3, h4, h5⟩ := k3 j u h
          refine ⟨v', e, h1, h2, by omega, ?_, h5⟩
          have : j - i = (j - (i + 1)) + 1 := by omega
          rw [this]
          simpa using h4

theorem keyOk_cases {t : TypeId} {k : Value} (h : keyOk P t k = true) : ∃ d, und P t = some d ∧ ((∃ q, d = .int q) ∧ (vInt k).isSome = true ∨ d = .string ∧ (vStr k).isSome = true) := by
  unfold keyOk at h
  split at h
  · rename_i q hu; exact ⟨_, hu, .inl ⟨⟨q, rfl⟩, h⟩⟩
  · rename_i hu; exact ⟨_, hu, .inr ⟨rfl, h⟩⟩
  · cases h

theorem key_same {ρ : Ren} {k k' : Value} (h : (vInt k).isSome = true ∨ (vStr k).isSome = true) (hk : VRel ρ k k') : k' = k := by
  apply hk.same
  cases k <;> simp [vInt, vStr] at h <;> rfl

theorem checkKey_any {t : TypeId} {d : TypeDesc} {k : Value} (n : Nat) (w : World) (b : Bool) (hu : und P t = some d) (hk : (∃ q, d = .int q) ∧ (vInt k).isSome = true ∨ d = .string ∧ (vStr k).isSome = true) :
    (Instr.checkKey b (n + 1) t k).run P w = .ok () w := by
  have hr := und_run hu w
  rcases hk with ⟨⟨q, rfl⟩, hk⟩ | ⟨rfl, hk⟩
  · simp [Instr.checkKey, hr]
  · simp [Instr.checkKey, hr]
theorem checkKey_run {t : TypeId} {d : TypeDesc} {k : Value} (w : World) (b : Bool) (hu : und P t = some d) (hk : (∃ q, d = .int q) ∧ (vInt k).isSome = true ∨ d = .string ∧ (vStr k).isSome = true) :
    (Instr.checkKey b 10000 t k).run P w = .ok () w := checkKey_any 9999 w b hu hk

theorem lookupA_run {w : World} {ρ : Ren} {μ : Mem} (hm : MRel ρ μ.blks w) {t : TypeId} {x x' k k' v : Value} {ok : Bool} (h : lookupA P μ t x k ok = some v) (hx : VRel ρ x x') (hk : VRel ρ k k') :
    ∃ v', (Instr.lookup t x' k' ok).run P w = .ok v' w ∧ VRel ρ v v' := by
  unfold lookupA at h
  cases hmt : mapA' P t with
  | none => simp [hmt] at h
  | some y =>
    obtain ⟨kt, elem⟩ := y
    have hu := mapA'_und hmt
    simp only [hmt, Option.bind_some] at h
    cases hko : keyOk P kt k with
    | false => simp [hko] at h
    | true =>
      obtain ⟨d, hd, hkd⟩ := keyOk_cases hko
      have e := key_same (hkd.imp (·.2) (·.2)) hk
      subst e
      simp only [hko, cond_true] at h
      cases hz : zeroA P elem with
      | none => simp [hz] at h
      | some z =>
        obtain ⟨_, _, _, hpz⟩ := zeroA_some hz
        simp only [hz, Option.bind_some] at h
        cases he : entriesA μ x with
        | none => simp [he] at h
        | some es =>
          simp only [he, Option.bind_some] at h
          cases hf : findA k' es 0 with
          | none => simp [hf] at h
          | some r =>
            simp only [hf, Option.map_some, Option.some.injEq] at h
            have hes : ∃ (ES : Array MapEntry), ES.size = es.length ∧
                (∀ (j : Nat) (q v : Value), es[j]? = some (q, v) → ∃ e : MapEntry, ES[j]? = some e ∧ e.key = q ∧ plain q = true ∧ VRel ρ v e.val) ∧
                (x' = .map none ∧ ES = #[] ∨ ∃ r c, x' = .map (some r) ∧ w.heap[r]? = some (.map ES c)) := by
              unfold entriesA at he
              split at he
              · injection he with he
                subst he
                have := hx.same rfl
                subst this
                exact ⟨#[], rfl, fun j q v h => by simp at h, .inl ⟨rfl, rfl⟩⟩
              · rename_i b
                split at he
                · rename_i es' hb
                  injection he with he
                  subst he
                  cases hx with
                  | lit h => simp [litV] at h
                  | map hρ =>
                    obtain ⟨_, ES, c, h1, h2, h3⟩ := hm.obj _ _ _ hb hρ
                    exact ⟨ES, h2, h3, .inr ⟨_, c, rfl, h1⟩⟩
                · cases he
              · cases he
            obtain ⟨ES, hsz, hget, hx'⟩ := hes
            obtain ⟨r', k1, k2, k3⟩ := findA_now (ρ := ρ) hkd es ES.toList 0 r hf (by simpa using hsz) (fun j q v hj => by simpa using hget j q v hj)
            have hfk : (Instr.findKey kt k' ES.toList).run P w = .ok r' w := by
              unfold Instr.findKey
              simp [und_run hd, k1]
            have hL : (Instr.lookup t x' k' ok).run P w = (do
                let (v, o) ← match r' with
                  | some (_, v) => pure (v, true)
                  | none => pure (← zeroValue elem, false)
                pure (if ok then .tuple #[v, .bool o] else v) : Sem Value).run P w := by
              unfold Instr.lookup
              rcases hx' with ⟨rfl, rfl⟩ | ⟨r, c, rfl, hh⟩
              · simp only [Sem.run_bind, und_run hu, Result.andThen_ok, Sem.run_pure, checkKey_run w _ hd hkd, hfk]
                cases r' <;> rfl
              · have hg : (getObj r).run P w = .ok (.map ES c) w := by simp [getObj, Sem.run, hh]
                simp only [Sem.run_bind, und_run hu, Result.andThen_ok, hg, Sem.run_pure, checkKey_run w _ hd hkd, hfk]
                cases r' <;> rfl
            rw [hL]
            cases r with
            | none =>
              have := k2 rfl
              subst this
              simp only at h
              refine ⟨v, ?_, ?_⟩
              · subst h
                simp only [Sem.run_bind, zeroA_run hz, Result.andThen_ok, Sem.run_pure]
                cases ok <;> rfl
              · subst h
                cases ok
                · exact .of_plain ρ hpz
                · exact VRel.tuple_l (LRel.cons (.of_plain ρ hpz) (LRel.cons (.lit rfl) (LRel.nil ρ)))
            | some y =>
              obtain ⟨j, u⟩ := y
              obtain ⟨u', e, h1, h2, _⟩ := k3 j u rfl
              subst h1
              simp only at h
              refine ⟨if ok then .tuple #[u', .bool true] else u', by simp, ?_⟩
              subst h
              cases ok
              · exact h2
              · exact VRel.tuple_l (LRel.cons h2 (LRel.cons (.lit rfl) (LRel.nil ρ)))

theorem mark_plain_all {μ : Mem} {b s : Nat} {vs : List Value} (hs : b < s) (hl : s ≤ (μ.mark b vs).low) : vs.all plain = true := by
  rw [List.all_eq_true]
  exact mark_plain hs hl

theorem known_plain_or {v : Value} (h : [v].all plain = true) : plain v = true := by simpa using h

theorem mapUpdateA_sound {w : World} {ρ : Ren} {μ μ' : Mem} (hm : MRel ρ μ.blks w) {t : TypeId} {m m' k k' v v' : Value} (h : mapUpdateA P μ t m k v = some μ') (hmm : VRel ρ m m') (hk : VRel ρ k k') (hv : VRel ρ v v') :
    ∃ w', (Instr.mapUpdate t m' k' v').run P w = .ok () w' ∧ Adv ρ μ w ρ μ' w' := by
  unfold mapUpdateA at h
  cases hmt : mapA' P t with
  | none => simp [hmt] at h
  | some y =>
    obtain ⟨kt, elem⟩ := y
    have hu := mapA'_und hmt
    simp only [hmt, Option.bind_some] at h
    cases hko : keyOk P kt k && known v with
    | false => simp [hko] at h
    | true =>
      simp only [hko, cond_true] at h
      simp only [Bool.and_eq_true] at hko
      obtain ⟨hko, hkn⟩ := hko
      obtain ⟨d, hd, hkd⟩ := keyOk_cases hko
      have e := key_same (hkd.imp (·.2) (·.2)) hk
      subst e
      have hpk : plain k' = true := by
        rcases hkd with ⟨_, h⟩ | ⟨_, h⟩ <;> cases k' <;> first | rfl | simp [vInt, vStr] at h
      split at h
      · rename_i b
        split at h
        · rename_i es hb
          cases hmm with
          | lit h => simp [litV] at h
          | map hρ =>
            rename_i p
            obtain ⟨h0, ES, c, hh, hsz, hget⟩ := hm.obj _ _ _ hb hρ
            cases hf : findA k' es 0 with
            | none => simp [hf] at h
            | some r =>
              simp only [hf, Option.map_some, Option.some.injEq] at h
              obtain ⟨r', k1, k2, k3⟩ := findA_now (ρ := ρ) hkd es ES.toList 0 r hf (by simpa using hsz) (fun j q v hj => by simpa using hget j q v hj)
              have hg : (getObj p.1).run P w = .ok (.map ES c) w := by simp [getObj, Sem.run, hh]
              have hfk : (Instr.findKey kt k' ES.toList).run P w = .ok r' w := by
                unfold Instr.findKey
                simp [und_run hd, k1]
              have hset : ∀ o : Obj, (setObj p.1 o).run P w = .ok () { w with heap := w.heap.setIfInBounds p.1 o } := fun o => MapKept.run_setObj_map o hh
              have hlt : p.1 < w.heap.size := by
                rcases Nat.lt_or_ge p.1 w.heap.size with h | h
                · exact h
                · rw [Array.getElem?_eq_none h] at hh; cases hh
              have hturn : ∀ o : Obj, Turn p.1 w { w with heap := w.heap.setIfInBounds p.1 o } := fun o =>
                ⟨by simp, fun i hi => by simp [Array.getElem?_setIfInBounds]; intro h; exact absurd h.symm hi, rfl, rfl, rfl⟩
              have hat : ∀ o : Obj, ({ w with heap := w.heap.setIfInBounds p.1 o } : World).heap[p.1]? = some o := fun o => by simp [hlt]
              have hmk : ∀ X : AObj, ((μ.set b X).mark b [v]) = { blks := μ.blks.set b X, low := ((μ.set b X).mark b [v]).low } := fun X => by
                have := mark_eta μ b [v] (μ.blks.set b X)
                exact this
              have hlow : ∀ X : AObj, ((μ.set b X).mark b [v]).low ≤ μ.low := fun X => mark_low (μ.set b X) b [v]
              cases r with
              | none =>
                have := k2 rfl
                subst this
                simp only at h
                subst h
                refine ⟨_, by
                  unfold Instr.mapUpdate
                  simp only [Sem.run_bind, und_run hu, Result.andThen_ok, hg, checkKey_run w _ hd hkd, hfk]
                  exact hset _, ?_⟩
                have rel : ∀ ρ₀ : Ren, VRel ρ₀ v v' → (∀ (j : Nat) (q u : Value), es[j]? = some (q, u) → ∃ e : MapEntry, ES[j]? = some e ∧ e.key = q ∧ plain q = true ∧ VRel ρ₀ u e.val) →
                    ORel ρ₀ { w with heap := w.heap.setIfInBounds p.1 (.map (ES.push { key := k', val := v', born := c }) (c + 1)) } p (.map (es ++ [(k', v)])) := by
                  intro ρ₀ hv₀ hg₀
                  refine ⟨h0, _, _, hat _, by simp [hsz], fun j q u hj => ?_⟩
                  rcases get_push hj with hj | ⟨hj2, hq⟩
                  · obtain ⟨e, e1, e2⟩ := hg₀ j q u hj
                    refine ⟨e, ?_, e2⟩
                    have : j < ES.size := by
                      rcases Nat.lt_or_ge j ES.size with h | h
                      · exact h
                      · rw [Array.getElem?_eq_none h] at e1; cases e1
                    rw [Array.getElem?_push_lt this, ← e1]
                    simp [this]
                  · injection hq with hq1 hq2
                    subst hq1 hq2
                    refine ⟨{ key := q, val := v', born := c }, by rw [hj2, ← hsz]; simp, rfl, hpk, hv₀⟩
                rw [hmk]
                refine Adv.turn hm hb rfl hρ (hturn _) (rel ρ hv hget) (hlow _) ?_
                intro s hs hsl hold
                obtain ⟨_, ES', c', hh', _, hget'⟩ := hold
                rw [hh] at hh'
                injection hh' with hh'
                injection hh' with e1 e2
                subst e1 e2
                have hpv := known_plain_or (mark_plain_all hs hsl)
                exact rel _ (hv.plain_any hpv) hget'
              | some y =>
                obtain ⟨j, u⟩ := y
                obtain ⟨u', e, h1, _, _, h4, h5⟩ := k3 j u rfl
                subst h1
                simp only at h
                subst h
                have h4' : ES[j]? = some e := by simpa using h4
                have hks : (Instr.keyThatStays (((ES[j]?).map (·.key)).getD k') k').run P w = .ok k' w := by
                  unfold Instr.keyThatStays
                  simp [h4', h5]
                refine ⟨_, by
                  unfold Instr.mapUpdate
                  simp only [Sem.run_bind, und_run hu, Result.andThen_ok, hg, checkKey_run w _ hd hkd, hfk, hks]
                  exact hset _, ?_⟩
                have rel : ∀ ρ₀ : Ren, VRel ρ₀ v v' → (∀ (j : Nat) (q u : Value), es[j]? = some (q, u) → ∃ e : MapEntry, ES[j]? = some e ∧ e.key = q ∧ plain q = true ∧ VRel ρ₀ u e.val) →
                    ORel ρ₀ { w with heap := w.heap.setIfInBounds p.1 (.map (ES.modify j fun e => { e with key := k', val := v' }) c) } p (.map (es.set j (k', v))) := by
                  intro ρ₀ hv₀ hg₀
                  refine ⟨h0, _, _, hat _, by simp [hsz], fun i q u hi => ?_⟩
                  rw [Array.getElem?_modify]
                  by_cases hij : j = i
                  · subst hij
                    have hjl : j < es.length := by
                      rcases Nat.lt_or_ge j es.length with h | h
                      · exact h
                      · rw [List.getElem?_eq_none (by simpa using h)] at hi; cases hi
                    rw [List.getElem?_set_self hjl] at hi
                    injection hi with hi
                    injection hi with h1 h2
                    subst h1 h2
                    exact ⟨{ e with key := k', val := v' }, by simp [h4'], rfl, hpk, hv₀⟩
                  · rw [List.getElem?_set_ne hij] at hi
                    obtain ⟨e, e1, e2⟩ := hg₀ i q u hi
                    exact ⟨e, by rw [if_neg hij]; exact e1, e2⟩
                rw [hmk]
                refine Adv.turn hm hb rfl hρ (hturn _) (rel ρ hv hget) (hlow _) ?_
                intro s hs hsl hold
                obtain ⟨_, ES', c', hh', _, hget'⟩ := hold
                rw [hh] at hh'
                injection hh' with hh'
                injection hh' with e1 e2
                subst e1 e2
                have hpv := known_plain_or (mark_plain_all hs hsl)
                exact rel _ (hv.plain_any hpv) hget'
        · cases h
      · cases h

theorem rangeA_sound {w : World} {ρ : Ren} {μ μ' : Mem} (hm : MRel ρ μ.blks w) {t : TypeId} {x x' v : Value} (h : rangeA P μ t x = some (v, μ')) (hx : VRel ρ x x') :
    ∃ ρ' v' w', (Instr.range t x').run P w = .ok v' w' ∧ VRel ρ' v v' ∧ Adv ρ μ w ρ' μ' w' := by
  unfold rangeA at h
  cases hs : isStrA P t with
  | false => simp [hs] at h
  | true =>
    have hu := isStrA_und hs
    simp only [hs, cond_true] at h
    cases hv : vStr x with
    | none => simp [hv] at h
    | some s =>
      obtain ⟨rfl, rfl⟩ := vStr_rel hv hx
      simp [hv] at h
      obtain ⟨rfl, rfl⟩ := h
      have hn := Newer.alloc w (.stringIter s 0)
      have hadv := Adv.new (.iter s 0) ⟨w.heap.size, 0, 0, 0⟩ rfl hm hn ⟨rfl, hn.new⟩
      refine ⟨_, .pointer (some ⟨w.heap.size, 0, none⟩), _, by simp [Instr.range, und_run hu, newObj]; rfl, ?_, hadv⟩
      have := VRel.ptr (o := 0) (show (ρ ++ [⟨w.heap.size, 0, 0, 0⟩])[μ.size]? = some ⟨w.heap.size, 0, 0, 0⟩ by rw [Mem.size, ← hm.len]; simp)
      simpa [ptr] using this

theorem nextA_sound {w : World} {ρ : Ren} {μ μ' : Mem} (hm : MRel ρ μ.blks w) {t : TypeId} {b : Bool} {x x' v : Value} (h : nextA μ x b = some (v, μ')) (hx : VRel ρ x x') :
    ∃ w', (Instr.next x' b t).run P w = .ok v w' ∧ plain v = true ∧ Adv ρ μ w ρ μ' w' := by
  unfold nextA at h
  cases b with
  | false => cases h
  | true =>
    rw [show (!true) = false from rfl, cond_false] at h
    split at h
    · rename_i r hp
      obtain ⟨p, hρ, rfl⟩ := vPtr_rel hp hx
      split at h
      · rename_i s pos hb
        obtain ⟨h0, hh⟩ := hm.obj r _ _ hb hρ
        have hg : (getObj p.1).run P w = .ok (.stringIter s pos) w := by simp [getObj, Sem.run, hh]
        have hlt : p.1 < w.heap.size := by
          rcases Nat.lt_or_ge p.1 w.heap.size with h | h
          · exact h
          · rw [Array.getElem?_eq_none h] at hh; cases hh
        by_cases hpos : pos < s.size
        · rw [bltT hpos, cond_true] at h
          injection h with h
          injection h with h1 h2
          subst h1 h2
          have hset : ∀ o : Obj, (setObj p.1 o).run P w = .ok () { w with heap := w.heap.setIfInBounds p.1 o } := fun o => by simp [setObj, Sem.run, hh]
          refine ⟨_, by
            simp only [h0, Nat.zero_add, Instr.next, Sem.run_bind, hg, Result.andThen_ok, if_pos hpos, hset, Sem.run_pure]
            rfl, by simp [plain, plainN], ?_⟩
          refine Adv.turn (low := μ.low) hm hb rfl hρ ⟨by simp, fun i hi => by simp [Array.getElem?_setIfInBounds]; intro h; exact absurd h.symm hi, rfl, rfl, rfl⟩ ?_ (Nat.le_refl _) (fun _ _ _ _ => ?_)
          · exact ⟨h0, by simp [hlt]⟩
          · exact ⟨h0, by simp [hlt]⟩
        · rw [bltF hpos, cond_false] at h
          injection h with h
          injection h with h1 h2
          subst h1 h2
          exact ⟨w, by simp only [h0, Nat.zero_add, Instr.next, Sem.run_bind, hg, Result.andThen_ok, if_neg hpos, Sem.run_pure], by simp [plain, plainN], Adv.refl hm⟩
      · cases h
    · cases h

theorem mapA_sound {w : World} {ρ : Ren} {μ μ' : Mem} (hm : MRel ρ μ.blks w) {t : TypeId} {v : Value} (h : mapA μ = some (v, μ')) :
    ∃ ρ' v' w', (Instr.makeMap t none).run P w = .ok v' w' ∧ VRel ρ' v v' ∧ Adv ρ μ w ρ' μ' w' := by
  unfold mapA at h
  injection h with h
  injection h with h1 h2
  subst h1 h2
  have hn := Newer.alloc w (.map #[] 0)
  have hadv := Adv.new (.map []) ⟨w.heap.size, 0, 0, 0⟩ rfl hm hn ⟨rfl, #[], 0, hn.new, rfl, fun i k v h => by simp at h⟩
  refine ⟨_, .map (some w.heap.size), _, by simp [Instr.makeMap, newObj]; rfl, ?_, hadv⟩
  exact VRel.map (show (ρ ++ [⟨w.heap.size, 0, 0, 0⟩])[μ.size]? = some ⟨w.heap.size, 0, 0, 0⟩ by rw [Mem.size, ← hm.len]; simp)

end Go.Vm
