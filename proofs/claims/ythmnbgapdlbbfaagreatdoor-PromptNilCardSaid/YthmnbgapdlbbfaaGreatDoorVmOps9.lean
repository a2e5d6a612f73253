/- The operations that enter no function: the rest, and all of them. -/
import Derived.Test.YthmnbgapdlbbfaaGreatDoorVmOps8
set_option linter.unusedSimpArgs false
set_option linter.unusedVariables false
namespace Go.Vm
open Go.RowKit

variable {P : Program}

theorem three_cells {α : Type} {a : Array α} {l : List α} (h : a.toList = l) : a = l.toArray := Array.ext' (by simpa using h)

set_option maxHeartbeats 1000000 in
theorem copyA_sound {w : World} {ρ : Ren} {μ μ' : Mem} (hm : MRel ρ μ.blks w) {argTypes : Array TypeId} {ty : TypeId} {args : List Value} {args' : Array Value} {v : Value}
    (h : copyA P μ argTypes args = some (v, μ')) (ha : LRel ρ args args'.toList) :
    ∃ w', (Builtin.copy_ argTypes ty args').run P w = .ok v w' ∧ litV v = true ∧ Adv ρ μ w ρ μ' w' := by
  unfold copyA at h
  split at h
  case h_2 => cases h
  case h_1 dT sT dst src hat =>
    have hat' := toList_two hat
    subst hat'
    obtain ⟨d', s', rfl, hd, hs⟩ := two_args ha
    cases he : elemA P dT with
    | none => simp [he] at h
    | some elem =>
      have hu := elemA_und he
      simp only [he, Option.bind_some] at h
      cases hsz : szOf P elem with
      | none => simp [hsz] at h
      | some sz =>
        simp only [hsz, Option.bind_some] at h
        cases hn : sliceLen src with
        | none => simp [hn] at h
        | some n =>
          simp only [hn, Option.bind_some] at h
          have hlen := sliceLen_rel (P := P) hn hs w
          cases hsl : vSlice dst with
          | none => simp [hsl] at h
          | some y =>
            obtain ⟨q, len, cap⟩ := y
            simp only [hsl] at h
            cases hf : firstA μ sz (min n len) src with
            | none => simp [hf] at h
            | some l =>
              simp only [hf, Option.bind_some] at h
              obtain ⟨l', hl, _, hfirst, hatom⟩ := firstA_rel (P := P) hm hf hs (fun m hm' => by rw [hn] at hm'; injection hm' with hm'; omega)
              have hfw := hfirst w fun _ _ => rfl
              rcases vSlice_rel hsl hd with ⟨rfl, hse, rfl⟩ | ⟨b, o, p, a', c', rfl, hρ, hse, rfl, hcap⟩
              · simp only at h
                by_cases h0 : min n len = 0
                · have e : (min n len == 0) = true := by simp [h0]
                  rw [e, cond_true] at h
                  injection h with h
                  injection h with h1 h2
                  subst h1 h2
                  refine ⟨w, ?_, rfl, Adv.refl hm⟩
                  have hx : Nat.min n len = 0 := h0
                  rw [h0] at hfw
                  simp [Builtin.copy_, und_run hu, hlen, szOf_run hsz, hx, hfw, goInt]
                · have e : (min n len == 0) = false := by simp [h0]
                  rw [e, cond_false] at h; cases h
              · simp only at h
                cases hst : storeA μ b o l with
                | none => simp [hst] at h
                | some μ2 =>
                  simp [hst] at h
                  obtain ⟨rfl, rfl⟩ := h
                  obtain ⟨hrun, hadv⟩ := storeA_sound (P := P) hm hst hρ hl
                  have hoff : l = [] ∨ a' = p.2 + o := by
                    by_cases hl0 : l = []
                    · exact .inl hl0
                    · right
                      rcases hcap with ⟨_, _, h, _⟩ | ⟨k, _, h1, _, h2, _⟩
                      · exact h
                      · refine h2 ?_
                        rcases Nat.eq_zero_or_pos len with h | h
                        · exfalso
                          apply hl0
                          subst h
                          rw [Nat.min_zero] at hf
                          cases src with
                          | string s => simp [firstA] at hf; exact hf
                          | slice a m c =>
                            cases hsx : vSlice (.slice a m c) with
                            | none => simp [firstA, hsx] at hf
                            | some y =>
                              obtain ⟨y1, y2, y3⟩ := y
                              cases y1 <;> simp [firstA, hsx] at hf <;> exact hf
                          | _ => simp [sliceLen] at hn
                        · omega
                  have hx : Nat.min n len = min n len := rfl
                  have hst2 : (storeCells ⟨p.1, a', none⟩ l').run P w = .ok () (w.setCells p.1 (p.2 + o) l') := by
                    rcases hoff with rfl | rfl
                    · have := hl.of_nil; subst this; rfl
                    · exact hrun
                  refine ⟨_, ?_, rfl, hadv⟩
                  simp only [Builtin.copy_]
                  simp [und_run hu, hlen, szOf_run hsz, hx, hfw, goInt, hst2]

theorem clearA_sound {w : World} {ρ : Ren} {μ μ' : Mem} (hm : MRel ρ μ.blks w) {argTypes : Array TypeId} {ty : TypeId} {args : List Value} {args' : Array Value} {v : Value}
    (h : clearA P μ argTypes args = some (v, μ')) (ha : LRel ρ args args'.toList) :
    ∃ w', (Builtin.clear_ argTypes ty args').run P w = .ok v w' ∧ v = .tuple #[] ∧ Adv ρ μ w ρ μ' w' := by
  unfold clearA at h
  split at h
  case h_2 => cases h
  case h_1 t x hat =>
    have hat' := toList_one hat
    subst hat'
    obtain ⟨x', rfl, hx⟩ := one_arg ha
    cases he : elemA P t with
    | none => simp [he] at h
    | some elem =>
      have hu := elemA_und he
      simp only [he, Option.bind_some] at h
      cases hsl : vSlice x with
      | none => simp [hsl] at h
      | some y =>
        obtain ⟨q, len, cap⟩ := y
        simp only [hsl] at h
        rcases vSlice_rel hsl hx with ⟨rfl, hse, rfl⟩ | ⟨b, o, p, a', c', rfl, hρ, hse, rfl, hcap⟩
        · simp at h
          obtain ⟨rfl, rfl⟩ := h
          exact ⟨w, by simp [Builtin.clear_, und_run hu], rfl, Adv.refl hm⟩
        · simp only at h
          cases len with
          | zero =>
            simp at h
            obtain ⟨rfl, rfl⟩ := h
            exact ⟨w, by simp [Builtin.clear_, und_run hu], rfl, Adv.refl hm⟩
          | succ n =>
            have e : ((n + 1 : Nat) == 0) = false := by simp
            rw [e, cond_false] at h
            cases hz : zeroA P elem with
            | none => simp [hz] at h
            | some z =>
              obtain ⟨_, _, _, hpz⟩ := zeroA_some hz
              simp only [hz, Option.bind_some] at h
              cases hst : storeA μ b o (repl (n + 1) z.cells.toList) with
              | none => simp [hst] at h
              | some μ2 =>
                simp [hst] at h
                obtain ⟨rfl, rfl⟩ := h
                have hzr : LRel ρ (repl (n + 1) z.cells.toList) (Builtin.zeroCells z.cells (n + 1)).toList := by
                  rw [zeroCells_list]
                  have hz1 := plain_cells_rel (ρ := ρ) hpz
                  refine ⟨rfl, fun i u u' hu hu' => ?_⟩
                  rw [hu] at hu'
                  injection hu' with hu'
                  subst hu'
                  have hil : i < (n + 1) * z.cells.toList.length := by
                    rcases Nat.lt_or_ge i ((n + 1) * z.cells.toList.length) with h | h
                    · exact h
                    · rw [List.getElem?_eq_none (by rw [(repl_get (n + 1) z.cells.toList).1]; exact h)] at hu; cases hu
                  rw [(repl_get (n + 1) z.cells.toList).2 i hil] at hu
                  exact hz1.2 _ u u hu hu
                obtain ⟨hrun, hadv⟩ := storeA_sound (P := P) hm hst hρ hzr
                have hoff : a' = p.2 + o := by
                  rcases hcap with ⟨_, _, h, _⟩ | ⟨k, _, h1, _, h2, _⟩
                  · exact h
                  · exact h2 (by omega)
                subst hoff
                exact ⟨_, by simp [Builtin.clear_, und_run hu, zeroA_run hz, hrun], rfl, hadv⟩

theorem lenA_run {w : World} {ρ : Ren} {μ : Mem} (hm : MRel ρ μ.blks w) {argTypes : Array TypeId} {ty : TypeId} {args : List Value} {args' : Array Value} {v : Value}
    (h : lenA P μ argTypes args = some v) (ha : LRel ρ args args'.toList) : (Builtin.len_ argTypes ty args').run P w = .ok v w ∧ litV v = true := by
  unfold lenA at h
  split at h
  case h_2 => cases h
  case h_1 t x hat =>
    have hat' := toList_one hat
    subst hat'
    obtain ⟨x', rfl, hx⟩ := one_arg ha
    cases hu : und P t with
    | none => simp [hu] at h
    | some d =>
      have hr := und_run hu w
      simp only [hu] at h
      cases d <;> simp only at h <;> try (cases h; done)
      case string =>
        cases hs : vStr x with
        | none => simp [hs] at h
        | some s =>
          obtain ⟨rfl, rfl⟩ := vStr_rel hs hx
          simp [hs] at h
          subst h
          exact ⟨by simp [Builtin.len_, hr, goInt], rfl⟩
      case array n e =>
        injection h with h
        subst h
        refine ⟨?_, rfl⟩
        simp only [Builtin.len_, List.getElem?_toArray, List.getElem?_cons_zero, Sem.run_bind, hr, Result.andThen_ok]
        cases x' <;> rfl
      case slice e =>
        cases hs : vSlice x with
        | none => simp [hs] at h
        | some y =>
          obtain ⟨q, n, c⟩ := y
          simp [hs] at h
          subst h
          rcases vSlice_rel hs hx with ⟨_, _, rfl⟩ | ⟨b, o, p, a', c', _, _, _, rfl, _⟩
          · exact ⟨by simp [Builtin.len_, hr, goInt], rfl⟩
          · exact ⟨by simp [Builtin.len_, hr, goInt], rfl⟩
      case map k e =>
        split at h
        · injection h with h
          subst h
          have := hx.same rfl
          subst this
          exact ⟨by simp [Builtin.len_, hr, goInt], rfl⟩
        · rename_i r
          cases hx with
          | lit hl => simp [litV] at hl
          | map hρ =>
            rename_i p
            split at h
            · rename_i es hes
              injection h with h
              subst h
              obtain ⟨h0, ES, clock, hh, hsz, _⟩ := hm.obj r _ _ hes hρ
              refine ⟨?_, rfl⟩
              have hg : (getObj p.1).run P w = .ok (.map ES clock) w := by simp [getObj, Sem.run, hh]
              simp [Builtin.len_, hr, goInt, hg, hsz]
            · cases h
        · cases h

theorem capA_run {w : World} {ρ : Ren} {argTypes : Array TypeId} {ty : TypeId} {args : List Value} {args' : Array Value} {v : Value}
    (h : capA P argTypes args = some v) (ha : LRel ρ args args'.toList) : (Builtin.cap_ argTypes ty args').run P w = .ok v w ∧ litV v = true := by
  unfold capA at h
  split at h
  case h_2 => cases h
  case h_1 t x hat =>
    have hat' := toList_one hat
    subst hat'
    obtain ⟨x', rfl, hx⟩ := one_arg ha
    cases hu : und P t with
    | none => simp [hu] at h
    | some d =>
      have hr := und_run hu w
      simp only [hu] at h
      cases d <;> simp only at h <;> try (cases h; done)
      case array n e =>
        injection h with h
        subst h
        refine ⟨?_, rfl⟩
        simp only [Builtin.cap_, List.getElem?_toArray, List.getElem?_cons_zero, Sem.run_bind, hr, Result.andThen_ok]
        cases x' <;> rfl
      case slice e =>
        cases hs : vSlice x with
        | none => simp [hs] at h
        | some y =>
          obtain ⟨q, n, c⟩ := y
          simp only [hs, Option.bind_some] at h
          by_cases hc : c < big
          · rw [bltT hc, cond_true] at h
            injection h with h
            subst h
            rcases vSlice_rel hs hx with ⟨_, _, rfl⟩ | ⟨b, o, p, a', c', _, _, _, rfl, hcap⟩
            · exact ⟨by simp [Builtin.cap_, hr, goInt], rfl⟩
            · rcases hcap with ⟨_, rfl, _⟩ | ⟨k, rfl, _⟩
              · exact ⟨by simp [Builtin.cap_, hr, goInt], rfl⟩
              · omega
          · rw [bltF hc, cond_false] at h; cases h

theorem minmax_run {w : World} {ρ : Ren} {m : Bool} {argTypes : Array TypeId} {ty : TypeId} {args : List Value} {args' : Array Value} {v : Value}
    (h : minmaxA m args = some v) (ha : LRel ρ args args'.toList) :
    ((if m then Builtin.max_ argTypes ty args' else Builtin.min_ argTypes ty args')).run P w = .ok v w ∧ litV v = true := by
  unfold minmaxA at h
  split at h
  case h_2 => cases h
  case h_1 x y =>
    obtain ⟨x', y', rfl, hx, hy⟩ := two_args ha
    cases h1 : vInt x with
    | none => simp [h1] at h
    | some a =>
      obtain ⟨k, a⟩ := a
      cases h2 : vInt y with
      | none => simp [h1, h2] at h
      | some b =>
        obtain ⟨k', b⟩ := b
        obtain ⟨_, rfl⟩ := vInt_rel h1 hx
        obtain ⟨_, rfl⟩ := vInt_rel h2 hy
        simp [h1, h2] at h
        subst h
        refine ⟨?_, rfl⟩
        cases m
        · simp [Builtin.min_, Builtin.min2]
        · simp [Builtin.max_, Builtin.max2]

/-! ### Conversions -/
theorem litV_plain {v : Value} (h : litV v = true) : plain v = true := by
  cases v with
  | pointer a => simpa [litV, plain, plainN] using h
  | slice a n c => simpa [litV, plain, plainN] using h
  | map a => simpa [litV, plain, plainN] using h
  | chan a => simpa [litV, plain, plainN] using h
  | _ => first | rfl | cases h

theorem utf8All_eq (s : ByteArray) : ∀ (n i : Nat) (acc : Array Value), (Conv.runesFrom s n i acc).toList = acc.toList ++ utf8All s n i := by
  intro n
  induction n with
  | zero => intro i acc; simp [Conv.runesFrom, utf8All]
  | succ n ih =>
    intro i acc
    unfold Conv.runesFrom utf8All
    by_cases h : i < s.size
    · rw [if_pos h, bltT h, cond_true, ih]
      simp
    · rw [if_neg h, bltF h, cond_false]
      simp

theorem lit_list {ρ : Ren} {l : List Value} (h : ∀ v ∈ l, litV v = true) : LRel ρ l l :=
  ⟨rfl, fun i u u' hu hu' => by rw [hu] at hu'; injection hu' with hu'; subst hu'; exact .lit (h u (List.mem_of_getElem? hu))⟩

theorem utf8All_lit (s : ByteArray) : ∀ (n i : Nat), ∀ v ∈ utf8All s n i, litV v = true := by
  intro n
  induction n with
  | zero => intro i v h; simp [utf8All] at h
  | succ n ih =>
    intro i v h
    unfold utf8All at h
    by_cases hi : i < s.size
    · rw [bltT hi, cond_true] at h
      rcases List.mem_cons.1 h with rfl | h
      · rfl
      · exact ih _ v h
    · rw [bltF hi, cond_false] at h; cases h

theorem freeze_last (w : World) (b n : Nat) (C : Array Value) (e : TypeId) (h : w.heap[b]? = some (.cells C e (0, 0))) :
    (w.freeze ⟨b, n, none⟩ 1).heap[b]? = some (.cells C e (n, n + 1)) := by
  simp [World.freeze, Array.getElem?_modify, h]

theorem Newer.freeze (w : World) (C : Array Value) (e : TypeId) :
    Newer w ((w.drew.alloc (.cells C e)).freeze ⟨w.heap.size, C.size, none⟩ 1) (.cells C e (C.size, C.size + 1)) := by
  have hw1 : (w.drew.alloc (.cells C e)).heap[w.heap.size]? = some (.cells C e (0, 0)) := heap_alloc_new w.drew _
  refine ⟨by simp [World.freeze], fun k hk => ?_, freeze_last _ _ _ _ _ hw1, rfl, rfl, rfl⟩
  have h1 : (w.drew.alloc (.cells C e)).heap[k]? = w.heap[k]? := heap_alloc_lt w.drew _ hk
  rw [← h1]
  unfold World.freeze
  rw [if_neg (by omega)]
  simp only [Array.getElem?_modify]
  rw [if_neg (by omega)]

theorem stringToBytes_run (w : World) (e : TypeId) (s : ByteArray) : ∃ (cap : Nat) (rest : List Value), s.size ≤ cap ∧ rest.length = cap - s.size ∧
    (Conv.stringToBytes e s).run P w = .ok (.slice (some ⟨w.heap.size, 0, none⟩) s.size cap)
      ((w.drew.alloc (.cells ((s.data.toList.map fun b => Value.int .u8 b.toNat) ++ rest).toArray e)).freeze ⟨w.heap.size, ((s.data.toList.map fun b => Value.int .u8 b.toNat) ++ rest).toArray.size, none⟩ 1) := by
  refine ⟨grownCap w s.size 0 e, List.replicate (grownCap w s.size 0 e - s.size) (.int .u8 0), ?_, by simp, ?_⟩
  · simp only [grownCap, Question.cut]; omega
  · have hC : (Array.map (fun b : UInt8 => Value.int IntKind.u8 (b.toNat : Int)) s.data ++ Array.replicate (grownCap w s.size 0 e - s.size) (Value.int IntKind.u8 0)) =
        ((s.data.toList.map fun (b : UInt8) => Value.int IntKind.u8 (b.toNat : Int)) ++ List.replicate (grownCap w s.size 0 e - s.size) (Value.int IntKind.u8 0)).toArray := Array.ext' (by simp)
    rw [← hC]
    generalize hg : Array.map (fun b : UInt8 => Value.int IntKind.u8 (b.toNat : Int)) s.data ++ Array.replicate (grownCap w s.size 0 e - s.size) (Value.int IntKind.u8 0) = C
    have hw1 : (w.drew.alloc (.cells C e)).heap[w.heap.size]? = some (.cells C e (0, 0)) := heap_alloc_new w.drew _
    have hsh : (w.drew.alloc (.cells C e)).shape? w.heap.size = some (e, C.size) := by unfold World.shape?; rw [hw1]
    unfold Conv.stringToBytes
    have hch : (choose (.appendCap s.size 0 e)).run P w = .ok (grownCap w s.size 0 e) w.drew := by simp [Question.forced, grownCap]
    simp only [Sem.run_bind, hch, Result.andThen_ok]
    rw [hg]
    have hnr : (newRow e C).run P w.drew = .ok ⟨w.heap.size, 0, none⟩ (w.drew.alloc (.cells C e)) := by simp [newRow]; rfl
    simp only [hnr, Result.andThen_ok]
    simp only [markStringish, Sem.run_bind, run_shape, hsh, Result.andThen_ok, run_freeze, Sem.run_pure]

theorem stringToRunes_run (w : World) (e : TypeId) (s : ByteArray) : ∃ (cap : Nat) (rest : List Value), (utf8All s s.size 0).length ≤ cap ∧ rest.length = cap - (utf8All s s.size 0).length ∧
    (Conv.stringToRunes e s).run P w = .ok (.slice (some ⟨w.heap.size, 0, none⟩) (utf8All s s.size 0).length cap) (w.drew.alloc (.cells (utf8All s s.size 0 ++ rest).toArray e)) := by
  have hel : (Conv.runesFrom s s.size 0 #[]).toList = utf8All s s.size 0 := by rw [utf8All_eq]; simp
  have hsz : (Conv.runesFrom s s.size 0 #[]).size = (utf8All s s.size 0).length := by rw [← hel]; simp
  refine ⟨grownCap w (utf8All s s.size 0).length 0 e, List.replicate (grownCap w (utf8All s s.size 0).length 0 e - (utf8All s s.size 0).length) (.int .i32 0), ?_, by simp, ?_⟩
  · simp only [grownCap, Question.cut]; omega
  · unfold Conv.stringToRunes
    dsimp only
    rw [hsz]
    have hch : (choose (.appendCap (utf8All s s.size 0).length 0 e)).run P w = .ok (grownCap w (utf8All s s.size 0).length 0 e) w.drew := by simp [Question.forced, grownCap]
    simp only [Sem.run_bind, hch, Result.andThen_ok]
    have hC : (Conv.runesFrom s s.size 0 #[] ++ Array.replicate (grownCap w (utf8All s s.size 0).length 0 e - (utf8All s s.size 0).length) (Value.int IntKind.i32 0)) =
        (utf8All s s.size 0 ++ List.replicate (grownCap w (utf8All s s.size 0).length 0 e - (utf8All s s.size 0).length) (Value.int IntKind.i32 0)).toArray := Array.ext' (by simp [hel])
    rw [hC]
    simp [newRow]
    rfl

theorem strTo_sound {w : World} {ρ : Ren} {μ μ' : Mem} (hm : MRel ρ μ.blks w) {src dst : TypeId} {d0 : TypeDesc} (hsrc : und P src = some d0) {s : ByteArray} {v : Value} (h : strTo P μ dst s = some (v, μ')) :
    ∃ ρ' v' w', (convert src dst (.string s)).run P w = .ok v' w' ∧ VRel ρ' v v' ∧ Adv ρ μ w ρ' μ' w' := by
  have hr0 := und_run hsrc w
  unfold strTo at h
  cases hu : und P dst with
  | none => simp [hu] at h
  | some d =>
    have hr := und_run hu w
    simp only [hu] at h
    cases d <;> simp only at h <;> try (cases h; done)
    case string =>
      injection h with h
      injection h with h1 h2
      subst h1 h2
      exact ⟨ρ, .string s, w, by simp [convert, hr0, hr], .lit rfl, Adv.refl hm⟩
    case slice e =>
      cases hk : intA P e with
      | none => simp [hk] at h
      | some k =>
        have hue := intA_und hk
        have hre := und_run hue w
        simp only [hk] at h
        cases k <;> simp only at h <;> try (cases h; done)
        case u8 =>
          unfold looseM at h
          cases hn : newA μ 1 (s.data.toList.map fun b => .int .u8 b.toNat) with
          | none => simp [hn] at h
          | some am =>
            obtain ⟨ad, μ2⟩ := am
            simp [hn] at h
            obtain ⟨rfl, rfl⟩ := h
            obtain ⟨cap, rest, h1, h2, h3⟩ := stringToBytes_run (P := P) w e s
            have hl : (s.data.toList.map fun b => Value.int .u8 (b.toNat : Int)).length = s.size := by simp
            have hCs : ((s.data.toList.map fun b => Value.int .u8 (b.toNat : Int)) ++ rest).toArray.size = cap := by simp only [List.size_toArray, List.length_append, hl, h2]; omega
            obtain ⟨k1, k2, k3⟩ := newA_sound hm hn (lit_list fun v hv => by
                simp only [List.mem_map] at hv
                obtain ⟨b, _, rfl⟩ := hv
                rfl) (fun i v hv => by simpa using get_app hv) (Newer.freeze w ((s.data.toList.map fun b => Value.int .u8 (b.toNat : Int)) ++ rest).toArray e) (fun i hi => by simp only; omega)
            subst k1
            have h4 : (convert src dst (.string s)).run P w = (Conv.stringToBytes e s).run P w := by
              simp only [convert, Sem.run_bind, hr0, hr, Result.andThen_ok, hre]
            refine ⟨_, _, _, h4.trans h3, ?_, k3⟩
            · have := VRel.loose (o := 0) (n := s.size) (k := s.size) (a := 0) (c := cap) k2 (Nat.le_refl _) h1 (fun _ => rfl) (Nat.le_refl _) (by rw [hCs]; simp)
              simpa using this
        case i32 =>
          unfold looseM at h
          cases hn : newA μ 1 (utf8All s s.size 0) with
          | none => simp [hn] at h
          | some am =>
            obtain ⟨ad, μ2⟩ := am
            simp [hn] at h
            obtain ⟨rfl, rfl⟩ := h
            obtain ⟨cap, rest, h1, h2, h3⟩ := stringToRunes_run (P := P) w e s
            have hCs : (utf8All s s.size 0 ++ rest).toArray.size = cap := by simp only [List.size_toArray, List.length_append, h2]; omega
            obtain ⟨k1, k2, k3⟩ := newA_sound (t := e) (fr := (0, 0)) (C := (utf8All s s.size 0 ++ rest).toArray) hm hn (lit_list (utf8All_lit s s.size 0)) (fun i v hv => by simpa using get_app hv) (Newer.drew w _) (fun i _ => by simp)
            subst k1
            have h4 : (convert src dst (.string s)).run P w = (Conv.stringToRunes e s).run P w := by
              simp only [convert, Sem.run_bind, hr0, hr, Result.andThen_ok, hre]
            refine ⟨_, _, _, h4.trans h3, ?_, k3⟩
            · have := VRel.loose (o := 0) (n := (utf8All s s.size 0).length) (k := (utf8All s s.size 0).length) (a := 0) (c := cap) k2 (Nat.le_refl _) h1 (fun _ => rfl) (Nat.le_refl _) (by rw [hCs]; simp)
              simpa using this

end Go.Vm
