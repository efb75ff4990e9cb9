/- Ev: the operations that read or write the memory. -/
import Derived.Test.YtnaodplcionlhaaGreatDoorEvD
import Derived.Laws.BytesString
namespace Go.Ev
noncomputable section
set_option linter.unusedVariables false
set_option linter.unusedSimpArgs false
variable {P : Program} {G : Nat} {W0 : World} {E : Nat → Option Value} {σ : Emb} {h : AH} {w : World}

def getRow (h : AH) (b : Nat) : Option Row :=
  match h.blks.get b with
  | some (.row r) => some r
  | _ => none
theorem getRow_some {b : Nat} {r : Row} (e : getRow h b = some r) : h.blks.get b = some (.row r) := by
  unfold getRow at e; split at e
  · rename_i hr; injection e with e; subst e; exact hr
  · cases e
def reads (P : Program) (r : Row) : Nat → Nat → Option (List Value)
  | _, 0 => some []
  | o, n + 1 => match r.get P o with
    | none => none
    | some v => match reads P r (o + 1) n with
      | none => none
      | some l => some (v :: l)
theorem reads_length {r : Row} : ∀ {n o : Nat} {l : List Value}, reads P r o n = some l → l.length = n := by
  intro n
  induction n with
  | zero => intro o l e; simp only [reads] at e; injection e with e; subst e; rfl
  | succ n ih =>
    intro o l e
    simp only [reads] at e
    split at e
    · cases e
    · split at e
      · cases e
      · rename_i hl; injection e with e; subst e; simp [ih hl]
theorem reads_sound (hR : HR E P G W0 σ h w) {b c : Nat} {r : Row} (hb : getRow h b = some r) (hs : σ b = some c) :
    ∀ {n o : Nat} {l : List Value}, reads P r o n = some l → ∃ l', VL E σ l l' ∧ ∀ j v, l'[j]? = some v → w.cell? ⟨c, o + j, none⟩ = some v := by
  intro n
  induction n with
  | zero => intro o l e; simp only [reads] at e; injection e with e; subst e; exact ⟨[], VL.nil, fun j v hv => by simp at hv⟩
  | succ n ih =>
    intro o l e
    simp only [reads] at e
    split at e
    · cases e
    · rename_i v hv
      split at e
      · cases e
      · rename_i l₁ hl
        injection e with e; subst e
        obtain ⟨v', h1, h2⟩ := hR.cell (getRow_some hb) hs hv
        obtain ⟨l', h3, h4⟩ := ih hl
        refine ⟨v' :: l', VL.cons h2 h3, fun j u hu => ?_⟩
        cases j with
        | zero => simp at hu; subst hu; simpa using h1
        | succ j => simp at hu; have := h4 j u hu; rw [show o + (j + 1) = o + 1 + j from by omega]; exact this
theorem run_reads (hR : HR E P G W0 σ h w) {b c : Nat} {r : Row} (hb : getRow h b = some r) (hs : σ b = some c) {n o : Nat} {l : List Value} (e : reads P r o n = some l) :
    ∃ l', VL E σ l l' ∧ (loadCells ⟨c, o, none⟩ n).run P w = .ok l'.toArray w := by
  obtain ⟨l', h1, h2⟩ := reads_sound hR hb hs e
  refine ⟨l', h1, ?_⟩
  have := run_loadCells_list (P := P) w ⟨c, o, none⟩ l' (fun j v hv => by rw [add_none]; exact h2 j v hv)
  rwa [← h1.1, reads_length e] at this

def aload (P : Program) (h : AH) (t : TypeId) (x : Value) : Option Value :=
  match x with
  | .pointer (some ⟨b, o, none⟩) => match getRow h b with
    | none => none
    | some r => match agg? P t with
      | none => none
      | some false => r.get P o
      | some true => match size? P t with
        | none => none
        | some n => match reads P r o n with
          | none => none
          | some l => some (.agg l.toArray)
  | _ => none
theorem run_aload (hR : HR E P G W0 σ h w) {t : TypeId} {x x' v : Value} (e : aload P h t x = some v) (hx : VR E σ x x') : ∃ v', VR E σ v v' ∧ (Instr.loadAt t x').run P w = .ok v' w := by
  unfold aload at e
  split at e
  · cases hx with
    | lit q => simp [lit] at q
    | ptr hs =>
      split at e
      · cases e
      · rename_i r hr
        split at e
        · cases e
        · rename_i ha
          obtain ⟨v', h1, h2⟩ := hR.cell (getRow_some hr) hs e
          refine ⟨v', h2, ?_⟩
          simp only [Instr.loadAt, Instr.sureAddr, Sem.run_bind, Sem.run_pure, Result.andThen_ok, loadVar, run_agg ha, Bool.false_eq_true, if_false, run_load, h1]
        · rename_i ha
          split at e
          · cases e
          · rename_i n hn
            split at e
            · cases e
            · rename_i l hl
              injection e with e; subst e
              obtain ⟨l', h1, h2⟩ := run_reads hR hr hs hl
              refine ⟨_, h1.agg, ?_⟩
              simp only [Instr.loadAt, Instr.sureAddr, Sem.run_bind, Sem.run_pure, Result.andThen_ok, loadVar, run_agg ha, if_true, run_size? hn, h2]
  · cases e

/-! ### bytes to a string -/
def bytesOf : List Value → Option (List UInt8)
  | [] => some []
  | .int .u8 n :: r => match bytesOf r with
    | none => none
    | some l => some (UInt8.ofNat n.toNat :: l)
  | _ => none
theorem bytesOf_sound : ∀ {l l' : List Value} {bs : List UInt8}, bytesOf l = some bs → VL E σ l l' → ∃ ns : List Int, l' = ns.map (Value.int .u8) ∧ bs = ns.map fun n => UInt8.ofNat n.toNat := by
  intro l
  induction l with
  | nil => intro l' bs e hl; simp only [bytesOf] at e; injection e with e; subst e; obtain rfl := hl.of_nil; exact ⟨[], rfl, rfl⟩
  | cons v l ih =>
    intro l' bs e hl
    obtain ⟨v', r', rfl, hv, hr⟩ := hl.uncons
    unfold bytesOf at e
    split at e
    · cases ‹v :: l = []›
    · rename_i n r hc
      injection hc with e1 e2
      subst e1 e2
      split at e
      · cases e
      · rename_i bs' hb
        injection e with e; subst e
        obtain ⟨ns, h1, h2⟩ := ih hb hr
        obtain rfl := hv.int_inv
        exact ⟨n :: ns, by simp [h1], by simp [h2]⟩
    · cases e
theorem foldl_push (ns : List Int) : ∀ (acc : ByteArray), ns.foldl (fun r n => r.push (UInt8.ofNat n.toNat)) acc = ⟨(acc.data.toList ++ ns.map fun n => UInt8.ofNat n.toNat).toArray⟩ := by
  induction ns with
  | nil => intro acc; apply ByteArray.ext; simp
  | cons n ns ih =>
    intro acc
    rw [List.foldl_cons, ih]
    apply ByteArray.ext
    simp [ByteArray.push]
def aToString (P : Program) (h : AH) (s d : TypeId) (x : Value) : Option Value :=
  match pund P s, pund P d with
  | some (.slice e), some .string => match pund P e with
    | some (.int .u8) => match x with
      | .slice none _ _ => some (.string ⟨#[]⟩)
      | .slice (some ⟨b, o, none⟩) n _ => match getRow h b with
        | none => none
        | some r => match reads P r o n with
          | none => none
          | some l => match bytesOf l with
            | none => none
            | some bs => some (.string ⟨bs.toArray⟩)
      | .slice (some ⟨0, 0, some 7⟩) 0 0 => some (.string ⟨#[]⟩)
      | _ => none
    | _ => none
  | _, _ => none
theorem run_aToString (hR : HR E P G W0 σ h w) {s d : TypeId} {x x' v : Value} (e : aToString P h s d x = some v) (hx : VR E σ x x') : VR E σ v v ∧ (convert s d x').run P w = .ok v w := by
  unfold aToString at e
  split at e
  · rename_i el hs hd
    split at e
    · rename_i he
      have conv : ∀ a n c, (convert s d (.slice a n c)).run P w = (Conv.bytesToString (.slice a n c)).run P w := by
        intro a n c
        cases a <;> simp [convert, run_und, hs, hd, he]
      split at e
      · injection e with e; subst e
        cases hx with
        | lit q =>
          refine ⟨.string _, ?_⟩
          rw [conv]; simp [Conv.bytesToString]; rfl
      · cases hx with
        | lit q => simp [lit] at q
        | slice hsl hc =>
          split at e
          · cases e
          · rename_i r hr
            split at e
            · cases e
            · rename_i l hl
              split at e
              · cases e
              · rename_i bs hbs
                injection e with e; subst e
                obtain ⟨l', h1, h2⟩ := run_reads hR hr hsl hl
                obtain ⟨ns, h3, h4⟩ := bytesOf_sound hbs h1
                refine ⟨.string _, ?_⟩
                rw [conv, run_bytesToString w _ _ _ ns (by rw [h2, h3]), foldl_push, h4]
                rfl
      · injection e with e; subst e
        cases hx with
        | lit q => simp [lit] at q
        | empty =>
          refine ⟨.string _, ?_⟩
          rw [conv, run_bytesToString w _ _ _ [] (by simp [loadCells, loadCellsFrom])]
          rfl
      · cases e
    · cases e
  · cases e

/-! ### writing -/
def writes (h : AH) (b : Nat) : Nat → List Value → Option AH
  | _, [] => some h
  | o, vs => match getRow h b with
    | none => none
    | some r => match Nat.ble (o + vs.length) r.n with
      | false => none
      | true => match vs.all Value.oneCell' with
        | false => none
        | true => match r.cells.puts D o vs with
          | none => none
          | some cells => match h.blks.put D b (some (.row { r with cells := cells })) with
            | none => none
            | some blks => some { h with blks := blks }
theorem run_storeCells {b c o : Nat} (hG : G ≤ b) (hs : σ b = some c) : ∀ (vs vs' : List Value) (i : Nat) (r : Row) (bg : Nat → Option AObj) (nx : Nat) (w : World) (cells' : Trie Value),
    HF E P G W0 σ bg nx w → bg b = some (.row r) → o + i + vs.length ≤ r.n → VL E σ vs vs' → vs.all Value.oneCell' = true → r.cells.puts D (o + i) vs = some cells' →
    ∃ w', (storeCells ⟨c, o, none⟩ vs' i).run P w = .ok () w' ∧ HF E P G W0 σ (upd bg b (some (.row { r with cells := cells' }))) nx w' := by
  intro vs
  induction vs with
  | nil =>
    intro vs' i r bg nx w cells' hR hb _ hv _ hp
    obtain rfl := hv.of_nil
    simp only [Trie.puts] at hp
    injection hp with hp; subst hp
    refine ⟨w, rfl, ?_⟩
    have : upd bg b (some (.row { r with cells := r.cells })) = bg := by
      funext m; by_cases h : m = b
      · subst h; rw [upd_self, hb]
      · rw [upd_ne h]
    rw [this]; exact hR
  | cons v vs ih =>
    intro vs' i r bg nx w cells' hR hb hle hv h1 hp
    obtain ⟨v', r', rfl, hv0, hvr⟩ := hv.uncons
    simp only [Trie.puts] at hp
    split at hp
    · rename_i t1 ht1
      simp only [List.length_cons] at hle
      simp only [List.all_cons, Bool.and_eq_true] at h1
      have ho : o + i < r.n := by omega
      obtain ⟨⟨u, hu⟩, hf⟩ := hR.room hb hs ho
      have hset := hR.set hG hb hs ho hv0 ht1
      have hle' : o + (i + 1) + vs.length ≤ ({ r with cells := t1 } : Row).n := by show _ ≤ r.n; omega
      obtain ⟨w', h2, h3⟩ := ih r' (i + 1) { r with cells := t1 } _ nx _ cells' hset (upd_self _ _ _) hle' hvr h1.2 (by rw [show o + (i + 1) = o + i + 1 from by omega]; exact hp)
      refine ⟨w', ?_, ?_⟩
      · simp only [storeCells, Sem.run_bind, add_none, run_store P w _ _ _ (hv0.oneCell h1.1), hu, hf, Bool.false_eq_true, if_false, Result.andThen_ok]
        exact h2
      · rw [upd_upd] at h3; exact h3
    · cases hp

theorem run_writes (hR : HR E P G W0 σ h w) {b c o : Nat} (hG : G ≤ b) (hs : σ b = some c) {vs vs' : List Value} {h' : AH} (e : writes h b o vs = some h') (hv : VL E σ vs vs') :
    ∃ w', (storeCells ⟨c, o, none⟩ vs').run P w = .ok () w' ∧ HR E P G W0 σ h' w' ∧ h'.next = h.next := by
  unfold writes at e
  split at e
  · injection e with e; subst e; obtain rfl := hv.of_nil; exact ⟨w, rfl, hR, rfl⟩
  · split at e
    · cases e
    · rename_i r hr
      split at e
      · cases e
      · rename_i hle
        split at e
        · cases e
        · rename_i h1
          split at e
          · cases e
          · rename_i cells hc
            split at e
            · cases e
            · rename_i blks hb
              injection e with e; subst e
              obtain ⟨w', h2, h3⟩ := run_storeCells hG hs _ _ 0 r _ _ w cells hR (getRow_some hr) (by simpa using ble_true hle) hv h1 (by simpa using hc)
              refine ⟨w', h2, ?_, rfl⟩
              show HF E P G W0 σ blks.get h.next w'
              rw [put_upd hb]; exact h3

def astore (P : Program) (G : Nat) (h : AH) (t : TypeId) (x v : Value) : Option AH :=
  match x with
  | .pointer (some ⟨b, o, none⟩) => match Nat.ble G b with
    | false => none
    | true => match size? P t with
      | none => none
      | some n => match Nat.beq v.cells.size n with
        | false => none
        | true => writes h b o v.cells.toList
  | _ => none
theorem run_astore (hR : HR E P G W0 σ h w) {t : TypeId} {x x' v v' : Value} {h' : AH} (e : astore P G h t x v = some h') (hx : VR E σ x x') (hv : VR E σ v v') :
    ∃ w', (Instr.storeAt t x' v').run P w = .ok () w' ∧ HR E P G W0 σ h' w' ∧ h'.next = h.next := by
  unfold astore at e
  split at e
  · cases hx with
    | lit q => simp [lit] at q
    | ptr hs =>
      split at e
      · cases e
      · rename_i hG
        have hG := ble_true hG
        split at e
        · cases e
        · rename_i n hn
          split at e
          · cases e
          · rename_i hsz
            have hsz := Trie.beq_true hsz
            obtain ⟨w', h1, h2, h3⟩ := run_writes hR hG hs e hv.cellsL
            refine ⟨w', ?_, h2, h3⟩
            have hsz' : v'.cells.size = n := by rw [← hv.cells.1]; exact hsz
            simp only [Instr.storeAt, Instr.sureAddr, storeVar, Sem.run_bind, Sem.run_pure, Result.andThen_ok, run_size? hn, ne_eq, hsz', not_true_eq_false, if_false, Sem.run_ite]
            exact h1
  · cases e

/-- a new row of given cells -/
def newRow? (G : Nat) (h : AH) (elem : TypeId) (ex : Bool) (vs : List Value) : Option (Value × AH) :=
  match Nat.ble G h.next with
  | false => none
  | true => match Trie.nil.puts D 0 vs with
    | none => none
    | some cells => match h.blks.put D h.next (some (.row ⟨cells, vs.length, elem, ex⟩)) with
      | none => none
      | some blks => some (.pointer (some ⟨h.next, 0, none⟩), { blks := blks, next := h.next + 1 })
theorem row_of_cells {σ' : Emb} {k : Nat} {ex : Bool} {cells : Trie Value} {vs vs' : List Value} {elem : TypeId} (hc : Trie.nil.puts D 0 vs = some cells) (hv : VL E σ' vs vs') (c : Array Value) (hcc : vs'.toArray = c ∨ ∃ rest : Array Value, c = vs'.toArray ++ rest) (hk : vs.length + k * sizeOf? P elem ≤ c.size) (hex : ex = true → k = 0) :
    OR E P σ' k (.row ⟨cells, vs.length, elem, ex⟩) (.cells c elem (0, 0)) := by
  have hpre : ∀ (i : Nat) (v : Value), vs'[i]? = some v → c[i]? = some v := by
    intro i v hi
    rcases hcc with rfl | ⟨rest, rfl⟩
    · simpa using hi
    · have hlt := (List.getElem?_eq_some_iff.1 hi).1
      rw [Array.getElem?_append_left (by simpa using hlt)]; simpa using hi
  refine .row hk (fun i v hi => ?_) (.inl rfl) hex
  have hlt := Row.get_lt hi
  unfold Row.get at hi
  have hbl : Nat.ble (Nat.succ i) vs.length = true := Nat.ble_eq_true_of_le hlt
  simp only at hlt
  have hg := Trie.get_puts _ _ _ _ _ hc i
  rw [if_pos ⟨Nat.zero_le _, by omega⟩, Nat.sub_zero, List.getElem?_eq_getElem hlt] at hg
  simp only [hbl, hg] at hi
  injection hi with hi; subst hi
  obtain ⟨v', h1, h2⟩ := hv.get (List.getElem?_eq_getElem hlt)
  exact ⟨v', hpre i v' h1, h2⟩
theorem run_newRow? (hR : HR E P G W0 σ h w) {elem : TypeId} {ex : Bool} {vs vs' : List Value} {v : Value} {h' : AH} (e : newRow? G h elem ex vs = some (v, h')) (hv : VL E σ vs vs') (c : Array Value) (hcc : vs'.toArray = c ∨ ∃ rest : Array Value, c = vs'.toArray ++ rest) {k : Nat} (hk : vs.length + k * sizeOf? P elem ≤ c.size) (hex : ex = true → k = 0) :
    v = .pointer (some ⟨h.next, 0, none⟩) ∧ h'.next = h.next + 1 ∧ HR E P G W0 (ext σ h.next w.heap.size k) h' { w with heap := w.heap.push (.cells c elem) } := by
  unfold newRow? at e
  split at e
  · cases e
  · rename_i hG
    have hG := ble_true hG
    split at e
    · cases e
    · rename_i cells hc
      split at e
      · cases e
      · rename_i blks hb
        injection e with e
        injection e with e1 e2
        subst e1 e2
        refine ⟨rfl, rfl, ?_⟩
        have hle : Le σ (ext σ h.next w.heap.size k) := Ext.le hR Ext.ext
        have := hR.alloc (o := .row ⟨cells, vs.length, elem, ex⟩) (row_of_cells hc (hv.mono hle) c hcc hk hex) hG (w' := { w with heap := w.heap.push (.cells c elem) }) rfl
        show HF E P G W0 _ blks.get (h.next + 1) _
        rw [put_upd hb]; exact this

end
end Go.Ev
