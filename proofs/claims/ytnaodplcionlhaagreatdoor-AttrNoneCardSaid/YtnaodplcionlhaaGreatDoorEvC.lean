/- Ev: more operations that neither read nor write the memory: parts, places, slices of slices, composites. -/
import Derived.Test.YtnaodplcionlhaaGreatDoorEvB
namespace Go.Ev
noncomputable section
set_option linter.unusedVariables false
set_option linter.unusedSimpArgs false
variable {P : Program} {G : Nat} {E : Nat → Option Value} {σ : Emb}

theorem add_none (b o n : Nat) : Addr.add ⟨b, o, none⟩ n = ⟨b, o + n, none⟩ := by
  unfold Addr.add; split
  · rename_i h; subst h; rfl
  · rfl

/-! ### bounds -/
def OV (E : Nat → Option Value) (σ : Emb) : Option Value → Option Value → Prop
  | none, none => True
  | some v, some v' => VR E σ v v'
  | _, _ => False
def bnd (v : Option Value) (d y : Nat) : Option Nat :=
  match v with
  | none => some d
  | some (.int _ (.ofNat m)) => match Nat.ble m y with
    | true => some m
    | false => none
  | _ => none
theorem run_bound {k : IntKind} {m y : Nat} (h : m ≤ y) (c : BoundsCode) (w : World) : (Instr.sliceBound (.int k (.ofNat m)) y c).run P w = .ok m w := by
  have : (0 : Int) ≤ Int.ofNat m ∧ Int.ofNat m ≤ (y : Int) := by constructor <;> simp only [Int.ofNat_eq_natCast] <;> omega
  simp only [Instr.sliceBound, asIntOf, Sem.run_bind, Sem.run_pure, Result.andThen_ok, Sem.run_ite, if_pos this]
  simp
theorem bnd_le {v : Option Value} {d y m : Nat} (h : bnd v d y = some m) (hd : d ≤ y) : m ≤ y := by
  unfold bnd at h; split at h
  · injection h with h; omega
  · split at h
    · rename_i hb; injection h with h; have := ble_true hb; omega
    · cases h
  · cases h
theorem run_bnd {v v' : Option Value} {d y y' m : Nat} (h : bnd v d y = some m) (hy : y ≤ y') (hv : OV E σ v v') (c : BoundsCode) (w : World) :
    (match v' with | some u => Instr.sliceBound u y' c | none => (pure d : Sem Nat)).run P w = .ok m w := by
  cases v with
  | none =>
    cases v' with
    | none => simp [bnd] at h; subst h; rfl
    | some u => exact hv.elim
  | some u =>
    cases v' with
    | none => exact hv.elim
    | some u' =>
      unfold bnd at h
      split at h
      · cases ‹some u = none›
      · rename_i e
        injection e with e; subst e
        obtain rfl := VR.int_inv hv
        split at h
        · rename_i hb; injection h with h; subst h
          exact run_bound (Nat.le_trans (ble_true hb) hy) _ w
        · cases h
      · cases h
theorem run_bounds {lo hi lo' hi' : Option Value} {l hh len cap cap' : Nat} {b : Bool} (h1 : bnd hi len cap = some hh) (h2 : bnd lo 0 hh = some l) (hc : cap ≤ cap')
    (v1 : OV E σ lo lo') (v2 : OV E σ hi hi') (w : World) : (Instr.sliceBounds b len cap' lo' hi' none).run P w = .ok (l, hh, cap') w := by
  have e1 := run_bnd (P := P) h1 hc v2 (if b = true then .sliceAcap else .sliceAlen) w
  have e2 := run_bnd (P := P) h2 (Nat.le_refl _) v1 .sliceB w
  unfold Instr.sliceBounds
  cases hi' <;> cases lo' <;> simp only [Sem.run_bind, Sem.run_pure, Result.andThen_ok, Option.isSome_none, Bool.false_eq_true, if_false] at e1 e2 ⊢ <;>
    simp_all

def aslS (sz : Nat) (x : Value) (lo hi : Option Value) : Option Value :=
  match x with
  | .slice none 0 0 => match bnd hi 0 0 with
    | none => none
    | some h => match bnd lo 0 h with
      | none => none
      | some _ => some (.slice none 0 0)
  | .slice (some ⟨b, o, none⟩) len cap => match bnd hi len cap with
    | none => none
    | some h => match Nat.ble h cap with
      | false => none
      | true => match bnd lo 0 h with
        | none => none
        | some 0 => some (.slice (some ⟨b, o, none⟩) h cap)
        | some (l + 1) => match Nat.ble (l + 1) h with
            | false => none
            | true => match Nat.beq (l + 1) cap with
              | true => some (.slice (some ⟨0, 0, some 7⟩) 0 0)
              | false => some (.slice (some ⟨b, o + (l + 1) * sz, none⟩) (h - (l + 1)) (cap - (l + 1)))
  | .slice (some ⟨0, 0, some 7⟩) 0 0 => match bnd hi 0 0 with
    | none => none
    | some h => match bnd lo 0 h with
      | none => none
      | some _ => some (.slice (some ⟨0, 0, some 7⟩) 0 0)
  | _ => none
def aslA (n sz : Nat) (x : Value) (lo hi : Option Value) : Option Value :=
  match x with
  | .pointer (some ⟨b, o, none⟩) => match bnd hi n n with
    | none => none
    | some h => match bnd lo 0 h with
      | none => none
      | some l => match Nat.beq n l with
          | true => some (.slice (some ⟨b, o, none⟩) (h - l) (n - l))
          | false => some (.slice (some ⟨b, o + l * sz, none⟩) (h - l) (n - l))
  | _ => none
def aslStr (x : Value) (lo hi : Option Value) : Option Value :=
  match x with
  | .string s => match bnd hi s.size s.size with
    | none => none
    | some h => match bnd lo 0 h with
      | none => none
      | some l => some (.string ⟨((s.data.toList.drop l).take (h - l)).toArray⟩)
  | _ => none
def aslice (P : Program) (t : TypeId) (x : Value) (lo hi : Option Value) : Option Value :=
  match pund P t with
  | some .string => aslStr x lo hi
  | some (.slice e) => match size? P e with
    | none => none
    | some sz => aslS sz x lo hi
  | some (.array n e) => match size? P e with
    | none => none
    | some sz => aslA n sz x lo hi
  | some (.pointer arr) => match pund P arr with
    | some (.array n e) => match size? P e with
      | none => none
      | some sz => aslA n sz x lo hi
    | _ => none
  | _ => none

theorem extract_bytes (s : ByteArray) (l h : Nat) : s.extract l h = ⟨((s.data.toList.drop l).take (h - l)).toArray⟩ := by
  apply ByteArray.ext
  apply Array.ext'
  simp [List.extract_eq_take_drop]

theorem run_aslS {sz : Nat} {t e : TypeId} {x x' v : Value} {lo hi lo' hi' : Option Value} (hu : pund P t = some (.slice e)) (hz : size? P e = some sz) (h : aslS sz x lo hi = some v) (hx : VR E σ x x') (h1 : OV E σ lo lo') (h2 : OV E σ hi hi') :
    ∃ v', VR E σ v v' ∧ ∀ w, (Instr.sliceAt t x' lo' hi' none).run P w = .ok v' w := by
  unfold aslS at h
  split at h
  · have e : x' = .slice none 0 0 := by cases hx; rfl
    subst e
    split at h
    · cases h
    · rename_i hh eh
      split at h
      · cases h
      · rename_i l el
        injection h with h; subst h
        have hh0 : hh = 0 := Nat.le_zero.1 (bnd_le eh (Nat.le_refl _))
        have hl0 : l = 0 := Nat.le_zero.1 (hh0 ▸ bnd_le el (Nat.zero_le _))
        subst hh0 hl0
        refine ⟨_, .lit rfl, fun w => ?_⟩
        simp [Instr.sliceAt, Instr.slice, run_und, hu, run_bounds eh el (Nat.le_refl _) h1 h2, run_size? hz]
  · rename_i b o len cap
    split at h
    · cases h
    · rename_i hh eh
      split at h
      · cases h
      · rename_i hcap
        have hcap := ble_true hcap
        cases hx with
        | lit q => simp [lit] at q
        | slice hs hcc =>
          rename_i b' c'
          have hc : cap ≤ c' := by omega
          split at h
          · cases h
          · rename_i el
            injection h with h; subst h
            refine ⟨.slice (some ⟨b', o, none⟩) hh c', .slice hs hcc, fun w => ?_⟩
            simp [Instr.sliceAt, Instr.slice, run_und, hu, run_bounds eh el hc h1 h2, run_size? hz, add_none]
          · rename_i l el
            split at h
            · cases h
            · rename_i hlh
              have hlh := ble_true hlh
              split at h
              · rename_i hlc
                have hlc := Trie.beq_true hlc
                injection h with h; subst h
                have hhl : hh = l + 1 := by omega
                subst hhl
                by_cases hm : c' = l + 1
                · subst hm
                  refine ⟨.slice (some ⟨b', o, none⟩) 0 0, .empty, fun w => ?_⟩
                  simp [Instr.sliceAt, Instr.slice, run_und, hu, run_bounds eh el hc h1 h2, run_size? hz]
                · refine ⟨.slice (some ⟨b', o + (l + 1) * sz, none⟩) 0 (c' - (l + 1)), .empty, fun w => ?_⟩
                  simp [Instr.sliceAt, Instr.slice, run_und, hu, run_bounds eh el hc h1 h2, run_size? hz, hm, add_none]
              · rename_i hlc
                have hlc := Trie.beq_false hlc
                injection h with h; subst h
                have hm : ¬ (c' = l + 1) := by omega
                refine ⟨.slice (some ⟨b', o + (l + 1) * sz, none⟩) (hh - (l + 1)) (c' - (l + 1)), .slice hs (by omega), fun w => ?_⟩
                simp [Instr.sliceAt, Instr.slice, run_und, hu, run_bounds eh el hc h1 h2, run_size? hz, hm, add_none]
  · split at h
    · cases h
    · rename_i hh eh
      split at h
      · cases h
      · rename_i l el
        injection h with h; subst h
        have hh0 : hh = 0 := Nat.le_zero.1 (bnd_le eh (Nat.le_refl _))
        have hl0 : l = 0 := Nat.le_zero.1 (hh0 ▸ bnd_le el (Nat.zero_le _))
        subst hh0 hl0
        cases hx with
        | lit q => simp [lit] at q
        | empty =>
          rename_i a' c'
          refine ⟨.slice (some a') 0 c', .empty, fun w => ?_⟩
          have : a'.add 0 = a' := by simp [Addr.add]
          simp [Instr.sliceAt, Instr.slice, run_und, hu, run_bounds eh el (Nat.zero_le c') h1 h2, run_size? hz, this]
  · cases h

theorem run_aslice {t : TypeId} {x x' v : Value} {lo hi lo' hi' : Option Value} (h : aslice P t x lo hi = some v) (hx : VR E σ x x') (h1 : OV E σ lo lo') (h2 : OV E σ hi hi') :
    ∃ v', VR E σ v v' ∧ ∀ w, (Instr.sliceAt t x' lo' hi' none).run P w = .ok v' w := by
  unfold aslice at h
  split at h
  · rename_i hu
    unfold aslStr at h
    split at h
    · obtain rfl := hx.string_inv
      split at h
      · cases h
      · rename_i hh eh
        split at h
        · cases h
        · rename_i l el
          injection h with h; subst h
          refine ⟨_, .string _, fun w => ?_⟩
          simp [Instr.sliceAt, Instr.slice, run_und, hu, run_bounds eh el (Nat.le_refl _) h1 h2, extract_bytes]
    · cases h
  · rename_i e hu
    split at h
    · cases h
    · rename_i sz hz
      exact run_aslS hu hz h hx h1 h2
  · rename_i n e hu
    split at h
    · cases h
    · rename_i sz hz
      unfold aslA at h
      split at h
      · rename_i b o
        cases hx with
        | lit q => simp [lit] at q
        | ptr hs =>
          split at h
          · cases h
          · rename_i hh eh
            split at h
            · cases h
            · rename_i l el
              split at h
              · rename_i hb
                have hb := Trie.beq_true hb
                injection h with h; subst h; subst hb
                refine ⟨_, .slice hs (.inl rfl), fun w => ?_⟩
                simp [Instr.sliceAt, Instr.sureAddr, run_und, hu, run_bounds eh el (Nat.le_refl _) h1 h2, run_size? hz]
              · rename_i hb
                have hb := Trie.beq_false hb
                injection h with h; subst h
                refine ⟨_, .slice hs (.inl rfl), fun w => ?_⟩
                simp [Instr.sliceAt, Instr.sureAddr, run_und, hu, run_bounds eh el (Nat.le_refl _) h1 h2, run_size? hz, hb, add_none]
      · cases h
  · rename_i arr hu
    split at h
    · rename_i n e hu2
      split at h
      · cases h
      · rename_i sz hz
        unfold aslA at h
        split at h
        · rename_i b o
          cases hx with
          | lit q => simp [lit] at q
          | ptr hs =>
            split at h
            · cases h
            · rename_i hh eh
              split at h
              · cases h
              · rename_i l el
                split at h
                · rename_i hb
                  have hb := Trie.beq_true hb
                  injection h with h; subst h; subst hb
                  refine ⟨_, .slice hs (.inl rfl), fun w => ?_⟩
                  simp [Instr.sliceAt, Instr.slice, asAddr, run_und, hu, hu2, run_bounds eh el (Nat.le_refl _) h1 h2, run_size? hz]
                · rename_i hb
                  have hb := Trie.beq_false hb
                  injection h with h; subst h
                  refine ⟨_, .slice hs (.inl rfl), fun w => ?_⟩
                  simp [Instr.sliceAt, Instr.slice, asAddr, run_und, hu, hu2, run_bounds eh el (Nat.le_refl _) h1 h2, run_size? hz, hb, add_none]
        · cases h
    · cases h
  · cases h

/-! ### parts, places -/
def apart (P : Program) (t : TypeId) (l : List Value) (off : Nat) : Option Value :=
  match agg? P t with
  | some true => match size? P t with
    | some n => some (.agg ((l.drop off).take n).toArray)
    | none => none
  | some false => l[off]?
  | none => none
theorem VL.drop {l l' : List Value} (h : VL E σ l l') (n : Nat) : VL E σ (l.drop n) (l'.drop n) :=
  ⟨by simp [h.1], fun i v v' a b => h.2 (n + i) v v' (by simpa using a) (by simpa using b)⟩
theorem VL.take {l l' : List Value} (h : VL E σ l l') (n : Nat) : VL E σ (l.take n) (l'.take n) := by
  refine ⟨by simp [h.1], fun i v v' a b => ?_⟩
  rw [List.getElem?_take] at a b
  split at a
  · rename_i hi; rw [if_pos hi] at b; exact h.2 i v v' a b
  · cases a
theorem run_apart {t : TypeId} {cs cs' : Array Value} {off : Nat} {v : Value} (h : apart P t cs.toList off = some v) (hc : VL E σ cs.toList cs'.toList) :
    ∃ v', VR E σ v v' ∧ ∀ w, (part t cs' off).run P w = .ok v' w := by
  unfold apart at h
  cases ha : agg? P t with
  | none => simp [ha] at h
  | some b =>
    cases b with
    | true =>
      simp only [ha] at h
      split at h
      · rename_i n hn
        injection h with h; subst h
        refine ⟨_, ((hc.drop off).take n).agg, fun w => ?_⟩
        have e : cs'.extract off (off + n) = ((cs'.toList.drop off).take n).toArray := by
          apply Array.ext'; simp [List.extract_eq_take_drop]
        simp [part, run_agg ha, run_size? hn, e]
      · cases h
    | false =>
      simp only [ha] at h
      obtain ⟨v', h1, h2⟩ := hc.get h
      refine ⟨v', h2, fun w => ?_⟩
      have : cs'[off]? = some v' := by simpa using h1
      simp [part, run_agg ha, this]

def afieldAddr (P : Program) (s : TypeId) (x : Value) (f : Nat) : Option Value :=
  match pund P s, x with
  | some (.struct fs), .pointer (some ⟨b, o, none⟩) => match fs.toList[f]? with
    | some fd => match size? P fd.type with
      | some (n + 1) => some (.pointer (some ⟨b, o + fd.offset, none⟩))
      | _ => none
    | none => none
  | _, _ => none
theorem run_afieldAddr {s : TypeId} {x x' v : Value} {f : Nat} (h : afieldAddr P s x f = some v) (hx : VR E σ x x') : ∃ v', VR E σ v v' ∧ ∀ w, (Instr.fieldAt s x' f).run P w = .ok v' w := by
  unfold afieldAddr at h
  split at h
  · rename_i fs b o hu
    cases hx with
    | lit q => simp [lit] at q
    | ptr hs =>
      split at h
      · rename_i fd hf
        have hf : fs[f]? = some fd := by simpa using hf
        split at h
        · rename_i n hn
          injection h with h; subst h
          refine ⟨_, .ptr hs, fun w => ?_⟩
          simp [Instr.fieldAt, run_und, hu, hf, Instr.sureAddr, fieldPlace, run_size? hn, add_none]
        · cases h
      · cases h
  · cases h

def afield (P : Program) (t : TypeId) (x : Value) (f : Nat) : Option Value :=
  match pund P t, x with
  | some (.struct fs), .agg cs => match fs.toList[f]? with
    | some fd => apart P fd.type cs.toList fd.offset
    | none => none
  | _, _ => none
theorem run_afield {t : TypeId} {x x' v : Value} {f : Nat} (h : afield P t x f = some v) (hx : VR E σ x x') : ∃ v', VR E σ v v' ∧ ∀ w, (Instr.field t x' f).run P w = .ok v' w := by
  unfold afield at h
  split at h
  · rename_i fs cs hu
    cases hx with
    | lit q => simp [lit] at q
    | agg ha hA =>
      split at h
      · rename_i fd hf
        have hf : fs[f]? = some fd := by simpa using hf
        obtain ⟨v', h1, h2⟩ := run_apart h (VL.of_array ha hA)
        exact ⟨v', h1, fun w => by simp [Instr.field, run_und, hu, hf, asAgg, h2]⟩
      · cases h
  · cases h

def aindexAddr (P : Program) (t : TypeId) (x i : Value) : Option Value :=
  match i with
  | .int _ (.ofNat m) => match pund P t, x with
    | some (.array n e), .pointer (some ⟨b, o, none⟩) => match Nat.ble (m + 1) n with
      | true => match size? P e with
        | some sz => some (.pointer (some ⟨b, o + m * sz, none⟩))
        | none => none
      | false => none
    | some (.slice e), .slice (some ⟨b, o, none⟩) n _ => match Nat.ble (m + 1) n with
      | true => match size? P e with
        | some sz => some (.pointer (some ⟨b, o + m * sz, none⟩))
        | none => none
      | false => none
    | _, _ => none
  | _ => none
theorem run_aindexAddr {t : TypeId} {x x' i i' v : Value} (h : aindexAddr P t x i = some v) (hx : VR E σ x x') (hi : VR E σ i i') : ∃ v', VR E σ v v' ∧ ∀ w, (Instr.indexAt t x' i').run P w = .ok v' w := by
  unfold aindexAddr at h
  split at h
  · rename_i k m
    obtain rfl := hi.int_inv
    split at h
    · rename_i n e b o hu
      cases hx with
      | lit q => simp [lit] at q
      | ptr hs =>
        split at h
        · rename_i hb
          have hb := ble_true hb
          split at h
          · rename_i sz hz
            injection h with h; subst h
            refine ⟨_, .ptr hs, fun w => ?_⟩
            have hlt : (m : Int) < (n : Int) := by omega
            simp [Instr.indexAt, asIntOf, run_und, hu, Instr.sureAddr, run_size? hz, add_none, hlt]
            intro hh; omega
          · cases h
        · cases h
    · rename_i e b o n c hu
      cases hx with
      | lit q => simp [lit] at q
      | slice hs hc =>
        split at h
        · rename_i hb
          have hb := ble_true hb
          split at h
          · rename_i sz hz
            injection h with h; subst h
            refine ⟨_, .ptr hs, fun w => ?_⟩
            have hlt : (m : Int) < (n : Int) := by omega
            simp [Instr.indexAt, asIntOf, run_und, hu, Instr.sureAddr, run_size? hz, add_none, hlt]
            intro hh; omega
          · cases h
        · cases h
    · cases h
  · cases h

def aindex (P : Program) (t : TypeId) (x i : Value) : Option Value :=
  match i with
  | .int _ (.ofNat m) => match pund P t, x with
    | some (.array n e), .agg cs => match Nat.ble (m + 1) n with
      | true => match size? P e with
        | some sz => apart P e cs.toList (m * sz)
        | none => none
      | false => none
    | some .string, .string s => match s.data.toList[m]? with
      | some b => some (.int .u8 b.toNat)
      | none => none
    | _, _ => none
  | _ => none
theorem run_aindex {t : TypeId} {x x' i i' v : Value} (h : aindex P t x i = some v) (hx : VR E σ x x') (hi : VR E σ i i') : ∃ v', VR E σ v v' ∧ ∀ w, (Instr.index t x' i').run P w = .ok v' w := by
  unfold aindex at h
  split at h
  · rename_i k m
    obtain rfl := hi.int_inv
    split at h
    · rename_i n e cs hu
      cases hx with
      | lit q => simp [lit] at q
      | agg ha hA =>
        split at h
        · rename_i hb
          have hb := ble_true hb
          split at h
          · rename_i sz hz
            obtain ⟨v', h1, h2⟩ := run_apart h (VL.of_array ha hA)
            have hlt : (m : Int) < (n : Int) := by omega
            exact ⟨v', h1, fun w => by simp [Instr.index, asIntOf, run_und, hu, run_size? hz, hlt, h2]; intro hh; omega⟩
          · cases h
        · cases h
    · rename_i s hu
      obtain rfl := hx.string_inv
      split at h
      · rename_i b hb
        injection h with h; subst h
        refine ⟨_, .int _ _, fun w => ?_⟩
        have hm : m < s.size := by have := (List.getElem?_eq_some_iff.1 hb).1; simpa using this
        have e : s[m]? = some b := by
          rw [getElem?_pos s m hm]
          have := (List.getElem?_eq_some_iff.1 hb).2
          congr 1
        simp [Instr.index, asIntOf, run_und, hu, e]
      · cases h
    · cases h
  · cases h

/-! ### composites -/
/-- some cells over some of a list's -/
def splice : List Value → Nat → List Value → List Value
  | l, _, [] => l
  | [], _, _ :: _ => []
  | _ :: l, 0, v :: vs => v :: splice l 0 vs
  | a :: l, o + 1, v :: vs => a :: splice l o (v :: vs)
theorem splice_get : ∀ (l : List Value) (o : Nat) (vs : List Value) (k : Nat), o + vs.length ≤ l.length → (splice l o vs)[k]? = if o ≤ k ∧ k < o + vs.length then vs[k - o]? else l[k]? := by
  intro l
  induction l with
  | nil =>
    intro o vs k h
    cases vs with
    | nil => simp [splice]
    | cons v vs => simp at h
  | cons a l ih =>
    intro o vs k h
    cases vs with
    | nil => simp [splice]; omega
    | cons v vs =>
      cases o with
      | zero =>
        cases k with
        | zero => simp [splice]
        | succ k =>
          simp only [splice, List.getElem?_cons_succ]
          rw [ih 0 vs k (by simp at h; omega)]
          simp
      | succ o =>
        cases k with
        | zero => simp [splice]
        | succ k =>
          simp only [splice, List.getElem?_cons_succ]
          rw [ih o (v :: vs) k (by simp at h ⊢; omega)]
          have e : k + 1 - (o + 1) = k - o := by omega
          by_cases hc : o ≤ k ∧ k < o + (v :: vs).length
          · rw [if_pos hc, if_pos (by omega), e]
          · rw [if_neg hc, if_neg (by omega)]
theorem splice_length : ∀ (l : List Value) (o : Nat) (vs : List Value), (splice l o vs).length = l.length := by
  intro l
  induction l with
  | nil => intro o vs; cases vs <;> simp [splice]
  | cons a l ih =>
    intro o vs
    cases vs with
    | nil => simp [splice]
    | cons v vs => cases o <;> simp [splice, ih]
theorem foldl_set (off : Nat) : ∀ (vs : List Value) (j : Nat) (cs : Array Value), off + j + vs.length ≤ cs.size →
    ((vs.zipIdx j).foldl (fun (cs : Array Value) (x : Value × Nat) => cs.setIfInBounds (off + x.2) x.1) cs).toList = splice cs.toList (off + j) vs := by
  intro vs
  induction vs with
  | nil => intro j cs h; cases hl : cs.toList <;> simp [splice, hl]
  | cons v vs ih =>
    intro j cs h
    simp only [List.length_cons] at h
    simp only [List.zipIdx_cons, List.foldl_cons]
    rw [ih (j + 1) _ (by simp; omega)]
    apply List.ext_getElem?
    intro k
    rw [splice_get _ _ _ _ (by simp; omega), splice_get _ _ _ _ (by simp; omega)]
    simp only [Array.toList_setIfInBounds, List.length_cons]
    by_cases h1 : off + (j + 1) ≤ k ∧ k < off + (j + 1) + vs.length
    · rw [if_pos h1, if_pos (by omega)]
      have e : k - (off + j) = (k - (off + (j + 1))) + 1 := by omega
      rw [e, List.getElem?_cons_succ]
    · rw [if_neg h1]
      by_cases h2 : k = off + j
      · subst h2
        rw [if_pos (by omega), List.getElem?_set_self (by simp; omega)]
        simp
      · rw [if_neg (by omega), List.getElem?_set_ne (by omega)]

/-- parts laid over a zero -/
def afill (place : Nat → Option (Nat × Nat)) : List Value → List (Nat × Value) → Option (List Value)
  | cells, [] => some cells
  | cells, (i, v) :: rest => match place i with
    | none => none
    | some (off, size) => match Nat.beq v.cells.size size with
      | false => none
      | true => match Nat.ble (off + v.cells.size) cells.length with
        | false => none
        | true => afill place (splice cells off v.cells.toList) rest
/-- parts of the same places -/
def PL (E : Nat → Option Value) (σ : Emb) : List (Nat × Value) → List (Nat × Value) → Prop
  | [], [] => True
  | (i, v) :: r, (i', v') :: r' => i = i' ∧ VR E σ v v' ∧ PL E σ r r'
  | _, _ => False
theorem VL.splice {l l' vs vs' : List Value} (h : VL E σ l l') (k : VL E σ vs vs') (o : Nat) (hle : o + vs.length ≤ l.length) : VL E σ (splice l o vs) (splice l' o vs') := by
  refine ⟨by rw [splice_length, splice_length]; exact h.1, fun i v v' a b => ?_⟩
  rw [splice_get _ _ _ _ hle] at a
  rw [splice_get _ _ _ _ (by rw [← k.1, ← h.1]; exact hle), ← k.1] at b
  split at a
  · rename_i hc; rw [if_pos hc] at b; exact k.2 _ v v' a b
  · rename_i hc; rw [if_neg hc] at b; exact h.2 _ v v' a b
theorem run_afill {place : Nat → Option (Nat × Nat)} : ∀ {parts parts' : List (Nat × Value)} {cells cells' : List Value} {out : List Value}, afill place cells parts = some out → PL E σ parts parts' → VL E σ cells cells' →
    ∃ out' : Array Value, Instr.fill place cells'.toArray parts' = some out' ∧ VL E σ out out'.toList := by
  intro parts
  induction parts with
  | nil =>
    intro parts' cells cells' out h hp hc
    cases parts' with
    | nil => simp only [afill] at h; injection h with h; subst h; exact ⟨_, rfl, by simpa using hc⟩
    | cons p r => exact hp.elim
  | cons p parts ih =>
    intro parts' cells cells' out h hp hc
    cases parts' with
    | nil => obtain ⟨i, v⟩ := p; exact hp.elim
    | cons p' r' =>
      obtain ⟨i, v⟩ := p
      obtain ⟨i', v'⟩ := p'
      obtain ⟨rfl, hv, hr⟩ := hp
      simp only [afill] at h
      split at h
      · cases h
      · rename_i off size hpl
        split at h
        · cases h
        · rename_i hsz
          have hsz := Trie.beq_true hsz
          split at h
          · cases h
          · rename_i hle
            have hle := ble_true hle
            have e1 : v'.cells.size = size := by rw [← hv.cells.1]; exact hsz
            have e2 : ¬ (off + v'.cells.size > cells'.toArray.size) := by rw [← hv.cells.1]; have := hc.1; simp; omega
            have hf := foldl_set off v'.cells.toList 0 cells'.toArray (by simp; rw [← hv.cells.1]; have := hc.1; omega)
            have hf' : v'.cells.zipIdx.foldl (fun (cs : Array Value) (x : Value × Nat) => cs.setIfInBounds (off + x.2) x.1) cells'.toArray = (Ev.splice cells' off v'.cells.toList).toArray := by
              apply Array.ext'
              rw [← Array.foldl_toList]
              simp only [Array.toList_zipIdx]
              simpa using hf
            obtain ⟨out', h3, h4⟩ := ih h hr (hc.splice hv.cellsL off (by simpa using hle))
            refine ⟨out', ?_, h4⟩
            simp only [Instr.fill, hpl]
            rw [if_neg (by simp [e1]; have := hc.1; have := hv.cells.1; omega)]
            rw [← h3]
            congr 1
      

end
end Go.Ev
