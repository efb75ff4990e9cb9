/- Ev: new blocks: alloc, make, box, a slice's literal, append, copy, conversions. -/
import Derived.Test.YtnaodplcionlhaaGreatDoorEvE
import Derived.Lib.AppendStr
namespace Go.Ev
noncomputable section
set_option linter.unusedVariables false
set_option linter.unusedSimpArgs false
variable {P : Program} {G : Nat} {W0 : World} {E : Nat → Option Value} {σ : Emb} {h : AH} {w : World}

def zval (b : Nat) : Option (Nat × Nat) → Value
  | none => .pointer (some ⟨b, 0, none⟩)
  | some (l, c) => .slice (some ⟨b, 0, none⟩) l c
theorem zval_vr {b c : Nat} (k : Option (Nat × Nat)) (h : σ b = some c) : VR E σ (zval b k) (zval c k) := by
  cases k with
  | none => exact .ptr h
  | some k => exact .slice h (.inl rfl)
theorem row_zero {elem : TypeId} {z : Value} (hz : zero? P elem = some z) (n : Nat) (c : Array Value) (hn : n ≤ c.size) (hc : ∀ i v, i < n → z.cells[i % z.cells.size]? = some v → c[i]? = some v) :
    OR E P σ 0 (.row ⟨.nil, n, elem, true⟩) (.cells c elem (0, 0)) := by
  refine .row (by simpa using hn) (fun i v hi => ?_) (.inl rfl) (fun _ => rfl)
  have hlt := Row.get_lt hi
  simp only at hlt
  have hbl : Nat.ble (Nat.succ i) n = true := Nat.ble_eq_true_of_le hlt
  unfold Row.get at hi
  simp only [hbl, Trie.get_nil] at hi
  obtain ⟨inf, z', h1, h2, h3, h4⟩ := zget_spec hi
  have : z' = z := by
    unfold zero? at hz
    rw [h1] at hz; simp only [] at hz
    rw [h2] at hz; simp only [] at hz
    split at hz
    · injection hz
    · cases hz
  subst this
  exact ⟨v, hc i v hlt h3, .lit h4⟩
def zmax : Nat := 1000000
/-- an operation that makes a block of zeros: the type, how many cells, and what it answers -/
def azero (P : Program) (ev : Operand → Option Value) (op : Op) : Option (TypeId × Nat × Option (Nat × Nat)) :=
  match op with
  | .alloc e => match zero? P e with
    | none => none
    | some z => some (e, z.cells.size, none)
  | .makeSlice t l c => match pund P t with
    | some (.slice e) => match pinfo P e with
      | none => none
      | some inf => match ev l, ev c with
        | some (.int _ (.ofNat ln)), some (.int _ (.ofNat cn)) => match Nat.ble ln cn with
          | false => none
          | true => match Nat.ble cn zmax with
            | false => none
            | true => match Nat.ble inf.bytes zmax with
              | false => none
              | true => match zero? P e with
                | none => none
                | some z => some (e, cn * inf.size, some (ln, cn))
        | _, _ => none
    | _ => none
  | _ => none
theorem azero_sound {o : Oper} {ev : Operand → Option Value} {ρ : Operand → Value} {e : TypeId} {n : Nat} {k : Option (Nat × Nat)} (hev : ∀ x u, ev x = some u → VR E σ u (ρ x)) (h : azero P ev o.op = some (e, n, k)) :
    ∃ c : Array Value, (∀ w, (execOp ρ o).run P w = .ok (.value (zval w.heap.size k)) (w.alloc (.cells c e))) ∧ ∀ σ', OR E P σ' 0 (.row ⟨.nil, n, e, true⟩) (.cells c e (0, 0)) := by
  unfold azero at h
  split at h
  · rename_i el ho
    split at h
    · cases h
    · rename_i z hz
      injection h with h
      injection h with h1 h2
      injection h2 with h2 h3
      subst h1 h2 h3
      refine ⟨z.cells, fun w => ?_, fun σ' => row_zero hz _ _ (Nat.le_refl _) fun i v hi hv => ?_⟩
      · simp [execOp, ho, Instr.alloc, run_zero? hz, newVar, newRow, zval]
      · rwa [Nat.mod_eq_of_lt hi] at hv
  · rename_i t l c ho
    split at h
    · rename_i el hu
      split at h
      · cases h
      · rename_i inf hinf
        split at h
        · rename_i k1 ln k2 cn hl hc
          split at h
          · cases h
          · rename_i hlc
            have hlc := ble_true hlc
            split at h
            · cases h
            · rename_i hcm
              have hcm := ble_true hcm
              split at h
              · cases h
              · rename_i hbm
                have hbm := ble_true hbm
                split at h
                · cases h
                · rename_i z hz
                  injection h with h
                  injection h with h1 h2
                  injection h2 with h2 h3
                  subst h1 h2 h3
                  have el1 := (hev l _ hl).int_inv
                  have ec1 := (hev c _ hc).int_inv
                  unfold zmax at hcm hbm
                  have hmul : inf.bytes * cn ≤ 1000000 * 1000000 := Nat.mul_le_mul hbm hcm
                  have hmul' : (inf.bytes : Int) * (cn : Int) ≤ 281474976710656 := by
                    have h5 : (inf.bytes : Int) * (cn : Int) = ((inf.bytes * cn : Nat) : Int) := (Int.natCast_mul _ _).symm
                    rw [h5]; omega
                  have hz' : inf.zero = some z := by
                    unfold zero? at hz
                    rw [hinf] at hz
                    simp only [] at hz
                    cases hzz : inf.zero with
                    | none => rw [hzz] at hz; cases hz
                    | some z' =>
                      rw [hzz] at hz
                      simp only [] at hz
                      split at hz
                      · injection hz with hz; subst hz; rfl
                      · cases hz
                  refine ⟨madeCells z.cells (cn * inf.size), fun w => ?_, fun σ' => row_zero hz _ _ (by rw [size_madeCells]; exact Nat.le_refl _) fun i v hi hv => ?_⟩
                  · have := run_make (P := P) w t el inf z (pund_eq hu) (pinfo_eq hinf) hz' k1 k2 ln cn (by omega) (by omega) hmul' (by omega)
                    simp only [Int.ofNat_eq_natCast] at el1 ec1
                    simp only [execOp, ho, el1, ec1, Sem.run_bind, this, Result.andThen_ok, Sem.run_pure, zval, Int.toNat_natCast]
                  · simp only [madeCells, Array.getElem?_map, Array.getElem?_range, hi, if_true, Option.map_some]
                    obtain ⟨hlt, hv⟩ := Array.getElem?_eq_some_iff.1 hv
                    rw [getElem!_pos z.cells _ hlt, hv]
        · cases h
    · cases h
  · cases h

/-! ### one cell row, a slice's literal -/
def abox (G : Nat) (h : AH) (e : TypeId) (v : Value) : Option (Value × AH) := newRow? G h e true v.cells.toList
theorem run_abox (hR : HR E P G W0 σ h w) {t : TypeId} {x x' v : Value} {h' : AH} (e : abox G h t x = some (v, h')) (hx : VR E σ x x') :
    ∃ σ' v' w', (Instr.box t x').run P w = .ok v' w' ∧ Ext h.next σ σ' ∧ VR E σ' v v' ∧ HR E P G W0 σ' h' w' ∧ h.next ≤ h'.next := by
  obtain ⟨e1, e2, e3⟩ := run_newRow? hR e hx.cellsL x'.cells (.inl (by simp)) (k := 0) (by have := hx.cellsL.1; simp at this ⊢; omega) (fun _ => rfl)
  subst e1
  refine ⟨_, _, _, ?_, Ext.ext, .ptr (ext_self _ _ _ _), e3, by omega⟩
  simp [Instr.box, newVar, newRow]

def areps (z : List Value) : Nat → Nat → List Value
  | _, 0 => []
  | i, n + 1 => (z.getD (i % z.length) undef) :: areps z (i + 1) n
theorem areps_eq (z : Array Value) (hz : 0 < z.size) : ∀ (n i : Nat), areps z.toList i n = (List.range' i n).map (fun j => z[j % z.size]!) := by
  intro n
  induction n with
  | zero => intro i; rfl
  | succ n ih =>
    intro i
    rw [areps, ih, List.range'_succ, List.map_cons]
    congr 1
    have : i % z.size < z.size := Nat.mod_lt _ hz
    rw [getElem!_pos z _ this]
    simp [List.getD, this]
theorem areps_length (z : List Value) : ∀ (n i : Nat), (areps z i n).length = n := by
  intro n; induction n with
  | zero => intro i; rfl
  | succ n ih => intro i; simp [areps, ih]
def abuildSlice (P : Program) (G : Nat) (h : AH) (t : TypeId) (len : Nat) (parts : List (Nat × Value)) : Option (Value × AH) :=
  match pund P t with
  | some (.slice e) => match size? P e with
    | none => none
    | some n => match Nat.ble (len * n) 100000 with
      | false => none
      | true => match zero? P e with
        | none => none
        | some z => match Nat.beq z.cells.size 0 with
          | true => none
          | false => match afill (fun i => some (i * n, n)) (areps z.cells.toList 0 (len * n)) parts with
            | none => none
            | some cells => match newRow? G h e true cells with
              | some (.pointer (some a), h') => some (.slice (some a) len len, h')
              | _ => none
  | _ => none
theorem areps_vl {z : List Value} (h : VL E σ z z) (hz : 0 < z.length) : ∀ (n i : Nat), VL E σ (areps z i n) (areps z i n) := by
  intro n
  induction n with
  | zero => intro i; exact VL.nil
  | succ n ih =>
    intro i
    refine VL.cons ?_ (ih _)
    have : i % z.length < z.length := Nat.mod_lt _ hz
    simp only [List.getD, List.getElem?_eq_getElem this, Option.getD_some]
    exact h.2 _ _ _ (List.getElem?_eq_getElem this) (List.getElem?_eq_getElem this)
theorem run_abuildSlice (hR : HR E P G W0 σ h w) {t : TypeId} {len : Nat} {parts parts' : List (Nat × Value)} {v : Value} {h' : AH} (e : abuildSlice P G h t len parts = some (v, h')) (hp : PL E σ parts parts') :
    ∃ σ' v' w', (Instr.buildSlice t len parts'.toArray).run P w = .ok v' w' ∧ Ext h.next σ σ' ∧ VR E σ' v v' ∧ HR E P G W0 σ' h' w' ∧ h.next ≤ h'.next := by
  unfold abuildSlice at e
  split at e
  · rename_i el hu
    split at e
    · cases e
    · rename_i n hn
      split at e
      · cases e
      · rename_i hle
        have hle := ble_true hle
        split at e
        · cases e
        · rename_i z hz
          split at e
          · cases e
          · rename_i hz0
            have hz0 : 0 < z.cells.size := by have := Trie.beq_false hz0; omega
            split at e
            · cases e
            · rename_i cells hc
              split at e
              · rename_i a h'' hnew
                injection e with e; injection e with e1 e2
                subst e1 e2
                obtain ⟨out, h1, h2⟩ := run_afill hc hp (areps_vl (zero?_lits hz) (by simpa using hz0) _ _)
                obtain ⟨e4, e5, e6⟩ := run_newRow? hR hnew h2 out (.inl (by simp)) (k := 0) (by have := h2.1; simp at this ⊢; omega) (fun _ => rfl)
                injection e4 with e4; injection e4 with e4; subst e4
                refine ⟨_, .slice (some ⟨w.heap.size, 0, none⟩) len len, _, ?_, Ext.ext, .slice (ext_self _ _ _ _) (.inl rfl), e6, by omega⟩
                have hlt : ¬ (len * n > 2 ^ 24) := by omega
                by_cases h0 : len * n = 0
                · have h1' : Instr.fill (fun i => some (i * n, n)) #[] parts' = some out := by
                    have : (areps z.cells.toList 0 (len * n)).toArray = #[] := by rw [h0]; rfl
                    rwa [this] at h1
                  simp [Instr.buildSlice, run_und, hu, run_size? hn, h0, h1', newRow, Array.range_zero']
                · have h1' : Instr.fill (fun i => some (i * n, n)) ((Array.range (len * n)).map (z.cells[· % z.cells.size]!)) parts' = some out := by
                    have : (areps z.cells.toList 0 (len * n)).toArray = (Array.range (len * n)).map (z.cells[· % z.cells.size]!) := by
                      rw [areps_eq _ hz0]
                      apply Array.ext'
                      simp [List.range_eq_range']
                    rwa [this] at h1
                  simp only [Instr.buildSlice, Sem.run_bind, run_und, hu, Result.andThen_ok, run_size? hn, Sem.run_ite, if_neg hlt, if_neg h0, Sem.run_pure, run_zero? hz, h1', newRow, run_newObj]
              · cases e
  · cases e

end
end Go.Ev
