/- Ev: all operations that change the memory, each with its answer. -/
import Derived.Test.YtnaodplcionlhaaGreatDoorEvG
namespace Go.Ev
noncomputable section
set_option linter.unusedVariables false
set_option linter.unusedSimpArgs false
variable {P : Program} {G : Nat} {W0 : World} {E : Nat → Option Value} {σ : Emb} {h : AH} {w : World}

/-- an operation has been carried out -/
def Did (E : Nat → Option Value) (P : Program) (G : Nat) (W0 : World) (σ : Emb) (h : AH) (w : World) (s : Sem Value) (v : Value) (h' : AH) : Prop :=
  ∃ σ' v' w', s.run P w = .ok v' w' ∧ Ext h.next σ σ' ∧ VR E σ' v v' ∧ HR E P G W0 σ' h' w' ∧ h.next ≤ h'.next

theorem run_aappend (hR : HR E P G W0 σ h w) {t tx ty : TypeId} {s x s' x' v : Value} {h' : AH} (e1 : aappend P G h t tx s x = some (v, h')) (hs : VR E σ s s') (hx : VR E σ x x') :
    Did E P G W0 σ h w (Builtin.append_ #[t, tx] ty #[s', x']) v h' := by
  unfold aappend at e1
  split at e1
  · rename_i e ht
    split at e1
    · cases e1
    · rename_i inf hi
      split at e1
      · cases e1
      · rename_i d htx
        split at e1
        · cases e1
        · rename_i hd
          split at e1
          · cases e1
          · rename_i n news hsrc
            obtain ⟨news', hv, _, hn, hf⟩ := asrc_sound hR hsrc hx
            split at e1
            · cases e1
            · rename_i hl
              have hl := Trie.beq_true hl
              split at e1
              · rename_i base sLen sCap
                split at e1
                · rename_i hle
                  exact run_aapIn ht hi htx hd hR hv hn hf e1 hs (ble_true hle)
                · rename_i hlt
                  have hlt := ble_false hlt
                  split at e1
                  · cases e1
                  · rename_i z hz
                    split at e1
                    · cases e1
                    · rename_i hcond
                      simp only [Bool.and_eq_true] at hcond
                      have h1 := ble_true hcond.1.1
                      have h2 := ble_true hcond.1.2
                      have h3 := Trie.beq_true hcond.2
                      have hz' : inf.zero = some z := by
                        unfold zero? at hz
                        rw [hi] at hz
                        simp only [] at hz
                        cases hzz : inf.zero with
                        | none => rw [hzz] at hz; cases hz
                        | some z' =>
                          rw [hzz] at hz
                          simp only [] at hz
                          split at hz
                          · injection hz with hz; subst hz; rfl
                          · cases hz
                      split at e1
                      · split at e1
                        · have : s' = .slice none 0 sCap := by cases hs; rfl
                          subst this
                          exact run_aapNil ht hi htx hd hR hv hn hf hz' h3 hl (by omega) h2 e1 (by omega)
                        · cases e1
                      · cases hs with
                        | lit q => simp [lit] at q
                        | slice hs hc => exact run_aapOld ht hi htx hd hR hv hn hf hz' h3 hl h1 h2 hs hc e1 hlt
                      · cases e1
              · cases e1
  · cases e1

/-! ### copy -/
def alenOf (x : Value) : Option Nat :=
  match x with
  | .slice _ n _ => some n
  | .string s => some s.data.toList.length
  | _ => none
def afirst (P : Program) (h : AH) (sz n : Nat) (x : Value) : Option (List Value) :=
  match n with
  | 0 => match x with
    | .slice none _ _ => some []
    | .slice (some ⟨_, _, none⟩) _ _ => some []
    | .slice (some ⟨0, 0, some 7⟩) 0 0 => some []
    | .string _ => some []
    | _ => none
  | _ + 1 => match x with
    | .slice (some ⟨b, o, none⟩) _ _ => match getRow h b with
      | none => none
      | some r => reads P r o (n * sz)
    | .string s => some ((s.data.toList.take n).map fun b => .int .u8 b.toNat)
    | _ => none
theorem alenOf_sound {x x' : Value} {n : Nat} (e : alenOf x = some n) (hx : VR E σ x x') (w : World) : (Builtin.lenOf x').run P w = .ok n w := by
  unfold alenOf at e
  split at e
  · injection e with e; subst e
    cases hx with
    | lit q => simp [Builtin.lenOf]
    | slice hs hc => simp [Builtin.lenOf]
    | empty => simp [Builtin.lenOf]
  · injection e with e; subst e
    obtain rfl := hx.string_inv
    simp [Builtin.lenOf]
  · cases e
theorem afirst_sound (hR : HR E P G W0 σ h w) {sz n : Nat} {x x' : Value} {l : List Value} (e : afirst P h sz n x = some l) (hx : VR E σ x x') :
    ∃ l', VL E σ l l' ∧ (Builtin.firstCells sz n x').run P w = .ok l'.toArray w := by
  unfold afirst at e
  split at e
  · split at e
    · injection e with e; subst e; cases hx with
      | lit q => exact ⟨[], VL.nil, by simp [Builtin.firstCells]⟩
    · injection e with e; subst e; cases hx with
      | lit q => simp [lit] at q
      | slice hs hc => exact ⟨[], VL.nil, by simp [Builtin.firstCells, loadCells, loadCellsFrom]⟩
    · injection e with e; subst e; cases hx with
      | lit q => simp [lit] at q
      | empty => exact ⟨[], VL.nil, by simp [Builtin.firstCells, loadCells, loadCellsFrom]⟩
    · injection e with e; subst e; obtain rfl := hx.string_inv
      exact ⟨[], VL.nil, by simp [Builtin.firstCells]⟩
    · cases e
  · rename_i n0
    split at e
    · cases hx with
      | lit q => simp [lit] at q
      | slice hs hc =>
        split at e
        · cases e
        · rename_i r hr
          obtain ⟨l', h1, h2⟩ := reads_sound hR hr hs e
          exact ⟨l', h1, run_firstCells_some w sz _ _ _ _ l' (by rw [← h1.1, reads_length e]) (fun j v hv => by rw [add_none]; exact h2 j v hv)⟩
    · injection e with e; subst e; obtain rfl := hx.string_inv
      rename_i s
      refine ⟨_, VL.lits (by simp only [List.all_map, List.all_eq_true]; intro b _; rfl), ?_⟩
      simp only [Builtin.firstCells, Sem.run_pure]
      congr 1
      apply Array.ext'
      simp [extract_bytes]
    · cases e

def acopy (P : Program) (G : Nat) (h : AH) (t : TypeId) (d s : Value) : Option (Value × AH) :=
  match pund P t with
  | some (.slice e) => match size? P e with
    | none => none
    | some sz => match d with
      | .slice base dLen _ => match alenOf s with
        | none => none
        | some m => match afirst P h sz (Nat.min m dLen) s with
          | none => none
          | some [] => match base with
            | none => some (.int .i64 (Nat.min m dLen), h)
            | some ⟨_, _, none⟩ => some (.int .i64 (Nat.min m dLen), h)
            | some ⟨0, 0, some 7⟩ => some (.int .i64 (Nat.min m dLen), h)
            | _ => none
          | some (c :: cs) => match base with
            | some ⟨b, o, none⟩ => match Nat.ble G b with
              | false => none
              | true => match writes h b o (c :: cs) with
                | none => none
                | some h' => some (.int .i64 (Nat.min m dLen), h')
            | _ => none
      | _ => none
  | _ => none
theorem run_acopy (hR : HR E P G W0 σ h w) {t ty : TypeId} {ts : Array TypeId} {d s d' s' v : Value} {h' : AH} (ht : ts[0]? = some t) (e1 : acopy P G h t d s = some (v, h')) (hd : VR E σ d d') (hs : VR E σ s s') :
    Did E P G W0 σ h w (Builtin.copy_ ts ty #[d', s']) v h' := by
  unfold acopy at e1
  split at e1
  · rename_i e hu
    split at e1
    · cases e1
    · rename_i sz hsz
      split at e1
      · rename_i base dLen dCap
        split at e1
        · cases e1
        · rename_i m hm
          have hlen := alenOf_sound (P := P) hm hs
          split at e1
          · cases e1
          · rename_i hfc
            obtain ⟨l', hl, hfirst⟩ := afirst_sound hR hfc hs
            obtain rfl := hl.of_nil
            obtain ⟨base', c', rfl⟩ : ∃ base' c', d' = .slice base' dLen c' := by
              cases hd with
              | lit q => exact ⟨_, _, rfl⟩
              | slice hs hc => exact ⟨_, _, rfl⟩
              | empty => exact ⟨_, _, rfl⟩
            have hv : v = .int .i64 (Nat.min m dLen) ∧ h' = h := by
              (repeat' split at e1) <;> first | (cases e1; done) | (injection e1 with e1; injection e1 with e1 e2; exact ⟨e1.symm, e2.symm⟩)
            obtain ⟨rfl, rfl⟩ := hv
            refine ⟨σ, _, w, ?_, Ext.refl _ _, .int _ _, hR, Nat.le_refl _⟩
            cases base' with
            | none => simp only [Builtin.copy_, ht, List.getElem?_toArray, List.getElem?_cons_zero, List.getElem?_cons_succ, Sem.run_bind, run_und, hu, Result.andThen_ok, hlen, run_size? hsz, hfirst, Sem.run_pure, goInt]
            | some a => simp only [Builtin.copy_, ht, List.getElem?_toArray, List.getElem?_cons_zero, List.getElem?_cons_succ, Sem.run_bind, run_und, hu, Result.andThen_ok, hlen, run_size? hsz, hfirst, Sem.run_pure, goInt, storeCells]
          · rename_i c cs hfc
            obtain ⟨l', hl, hfirst⟩ := afirst_sound hR hfc hs
            split at e1
            · rename_i b o
              split at e1
              · cases e1
              · rename_i hG
                split at e1
                · cases e1
                · rename_i h'' hw
                  injection e1 with e1; injection e1 with e1 e2; subst e1 e2
                  cases hd with
                  | lit q => simp [lit] at q
                  | slice hsd hc =>
                    obtain ⟨w', h1, h2, h3⟩ := run_writes hR (ble_true hG) hsd hw hl
                    refine ⟨σ, _, w', ?_, Ext.refl _ _, .int _ _, h2, by omega⟩
                    simp only [Builtin.copy_, ht, List.getElem?_toArray, List.getElem?_cons_zero, List.getElem?_cons_succ, Sem.run_bind, run_und, hu, Result.andThen_ok, hlen, run_size? hsz, hfirst, h1, Sem.run_pure, goInt]
            · cases e1
      · cases e1
  · cases e1

/-! ### a string as bytes -/
def aToBytes (P : Program) (G : Nat) (h : AH) (s d : TypeId) (x : Value) : Option (Value × AH) :=
  match pund P s, pund P d with
  | some sd, some (.slice e) => match pund P e with
    | some (.int .u8) => match size? P e with
      | some 1 => match x with
        | .string b => match newRow? G h e false (b.data.toList.map fun b => .int .u8 b.toNat) with
          | some (.pointer (some a), h') => some (.slice (some a) b.data.toList.length b.data.toList.length, h')
          | _ => none
        | _ => none
      | _ => none
    | _ => none
  | _, _ => none

/-- marking a row's end changes nothing that is told -/
theorem HF.mark {bg : Nat → Option AObj} {nx : Nat} (hR : HF E P G W0 σ bg nx w) {b c : Nat} {r : Row} (hG : G ≤ b) (hb : bg b = some (.row r)) (hs : σ b = some c) :
    ∃ n, w.shape? c = some (r.elem, n) ∧ HF E P G W0 σ bg nx (w.freeze ⟨c, n, none⟩ 1) := by
  obtain ⟨ob, h1, h2⟩ := hR.blk b _ c hb hs
  cases h2 with
  | row hn hc hf hx =>
    rename_i cs fz
    refine ⟨cs.size, by simp [World.shape?, h1], ?_⟩
    have hu : upd bg b (some (.row r)) = bg := by
      funext m; by_cases h : m = b
      · subst h; rw [upd_self, hb]
      · rw [upd_ne h]
    have hnew : ∀ k, (w.freeze ⟨c, cs.size, none⟩ 1).heap[k]? = if k = c then some (.cells cs r.elem (if fz.1 == fz.2 then (cs.size, cs.size + 1) else (min fz.1 cs.size, max fz.2 (cs.size + 1)))) else w.heap[k]? := by
      intro k
      obtain ⟨lo, hi⟩ := fz
      by_cases hk : k = c
      · subst hk
        simp [World.freeze, Array.getElem?_modify, h1]
      · simp [World.freeze, Array.getElem?_modify, hk, Ne.symm hk, fun e => hk (Eq.symm e)]
    rw [← hu]
    refine hR.turn hG hb hs (.row hn hc ?_ hx) hnew (by simp [World.freeze])
    by_cases he : fz.1 = fz.2
    · simp [he]
    · have h3 : cs.size ≤ fz.1 := by rcases hf with h | h; exact absurd h he; exact h
      simp [he]
      omega
theorem run_markStringish {bg : Nat → Option AObj} {nx : Nat} (hR : HF E P G W0 σ bg nx w) {b c o : Nat} {r : Row} (hG : G ≤ b) (hb : bg b = some (.row r)) (hs : σ b = some c) :
    ∃ w', (markStringish ⟨c, o, none⟩).run P w = .ok () w' ∧ HF E P G W0 σ bg nx w' := by
  obtain ⟨n, h1, h2⟩ := hR.mark hG hb hs
  exact ⟨_, by simp [markStringish, h1], h2⟩

theorem run_aToBytes (hR : HR E P G W0 σ h w) {s d : TypeId} {x x' v : Value} {h' : AH} (e1 : aToBytes P G h s d x = some (v, h')) (hx : VR E σ x x') :
    Did E P G W0 σ h w (convert s d x') v h' := by
  unfold aToBytes at e1
  split at e1
  · rename_i sd e hsu hdu
    split at e1
    · rename_i he
      split at e1
      · rename_i hsz
        split at e1
        · rename_i b
          obtain rfl := hx.string_inv
          split at e1
          · rename_i a h'' hnew
            injection e1 with e1; injection e1 with e1 e2; subst e1 e2
            have hv : VL E σ (b.data.toList.map fun b => Value.int .u8 b.toNat) (b.data.toList.map fun b => Value.int .u8 b.toNat) := VL.lits (by simp only [List.all_map, List.all_eq_true]; intro b _; rfl)
            have hge : b.size ≤ grownCap w b.size 0 e := grownCap_ge w b.size 0 e
            have hse : sizeOf? P e = 1 := by
              unfold size? at hsz; unfold sizeOf?
              cases hi : pinfo P e with
              | none => rw [hi] at hsz; cases hsz
              | some i => rw [hi] at hsz; simpa using hsz
            have hbs : b.data.toList.length = b.size := by simp
            obtain ⟨e4, e5, e6⟩ := run_newRow? (hR.of_heap (w' := w.drew) rfl) hnew hv ((b.data.map fun b => Value.int .u8 b.toNat) ++ Array.replicate (grownCap w b.size 0 e - b.size) (.int .u8 0)) (.inr ⟨Array.replicate (grownCap w b.size 0 e - b.size) (.int .u8 0), by
              congr 1
              apply Array.ext'; simp⟩) (k := grownCap w b.size 0 e - b.size) (by rw [hse]; simp) (fun hh => by cases hh)
            injection e4 with e4; injection e4 with e4; subst e4
            have hG : G ≤ h.next := by
              unfold newRow? at hnew
              split at hnew
              · cases hnew
              · rename_i hg; exact ble_true hg
            have hrow : ∃ r, h''.blks.get h.next = some (.row r) := by
              unfold newRow? at hnew
              split at hnew
              · cases hnew
              · split at hnew
                · cases hnew
                · split at hnew
                  · cases hnew
                  · rename_i blks hb
                    injection hnew with hnew; injection hnew with _ hnew; subst hnew
                    exact ⟨_, by rw [put_upd hb, upd_self]⟩
            obtain ⟨r, hr⟩ := hrow
            obtain ⟨w', h7, h8⟩ := run_markStringish (P := P) (o := 0) e6 hG hr (ext_self _ _ _ _)
            refine ⟨_, .slice (some ⟨w.heap.size, 0, none⟩) b.size (grownCap w b.size 0 e), w', ?_, Ext.ext, ?_, h8, by omega⟩
            · have hch : (choose (.appendCap b.size 0 e)).run P w = .ok (grownCap w b.size 0 e) w.drew := by
                rw [run_choose]; simp [Question.forced, grownCap]
              have hconv : (convert s d (.string b)).run P w = (Conv.stringToBytes e b).run P w := by
                cases sd <;> simp [convert, run_und, hsu, hdu, he]
              rw [hconv]
              simp only [Conv.stringToBytes, Sem.run_bind, hch, Result.andThen_ok, newRow, run_newObj, Sem.run_pure]
              have h7' : (markStringish ⟨w.drew.heap.size, 0, none⟩).run P ({ w.drew with heap := w.drew.heap.push (.cells ((b.data.map fun b => Value.int .u8 b.toNat) ++ Array.replicate (grownCap w b.size 0 e - b.size) (.int .u8 0)) e) }) = .ok () w' := h7
              rw [h7']
              rfl
            · rw [hbs]
              exact .slice (ext_self _ _ _ _) (.inr (by rw [ext_sl]; omega))
          · cases e1
        · cases e1
      · cases e1
    · cases e1
  · cases e1

def aSameBytes (P : Program) (G : Nat) (h : AH) (s d : TypeId) (x : Value) : Option (Value × AH) :=
  match Nat.beq s d with
  | false => none
  | true => match pund P d with
    | some (.slice e) => match pund P e with
      | some (.int .u8) => match x with
        | .slice (some ⟨b, o, none⟩) n c => match Nat.ble G b with
          | false => none
          | true => match getRow h b with
            | none => none
            | some _ => some (.slice (some ⟨b, o, none⟩) n c, h)
        | _ => none
      | _ => none
    | _ => none
theorem run_aSameBytes (hR : HR E P G W0 σ h w) {s d : TypeId} {x x' v : Value} {h' : AH} (e1 : aSameBytes P G h s d x = some (v, h')) (hx : VR E σ x x') :
    Did E P G W0 σ h w (convert s d x') v h' := by
  unfold aSameBytes at e1
  split at e1
  · cases e1
  · rename_i hsd
    obtain rfl := Trie.beq_true hsd
    split at e1
    · rename_i e hu
      split at e1
      · rename_i he
        split at e1
        · rename_i b o n c
          split at e1
          · cases e1
          · rename_i hG
            split at e1
            · cases e1
            · rename_i r hr
              injection e1 with e1; injection e1 with e1 e2; subst e1 e2
              cases hx with
              | lit q => simp [lit] at q
              | slice hs hc =>
                obtain ⟨w', h7, h8⟩ := run_markStringish (P := P) (o := o) hR (ble_true hG) (getRow_some hr) hs
                refine ⟨σ, _, w', ?_, Ext.refl _ _, .slice hs hc, h8, Nat.le_refl _⟩
                simp [convert, run_und, hu, he, h7]
        · cases e1
      · cases e1
    · cases e1

/-! ### maps with strings as keys -/
def aMakeMap (G : Nat) (h : AH) : Option (Value × AH) :=
  match Nat.ble G h.next with
  | false => none
  | true => match h.blks.put D h.next (some (.map [] 0)) with
    | none => none
    | some blks => some (.map (some h.next), { blks := blks, next := h.next + 1 })
theorem run_aMakeMap (hR : HR E P G W0 σ h w) {t : TypeId} {v : Value} {h' : AH} (e1 : aMakeMap G h = some (v, h')) :
    Did E P G W0 σ h w (Instr.makeMap t none) v h' := by
  unfold aMakeMap at e1
  split at e1
  · cases e1
  · rename_i hG
    split at e1
    · cases e1
    · rename_i blks hb
      injection e1 with e1; injection e1 with e1 e2; subst e1 e2
      have hnew := hR.alloc (k := 0) (o := .map [] 0) (ob := .map #[] 0) (.map rfl (fun i e e' he _ => by simp at he)) (ble_true hG) (w' := w.alloc (.map #[] 0)) rfl
      refine ⟨ext σ h.next w.heap.size 0, .map (some w.heap.size), _, by simp [Instr.makeMap]; rfl, Ext.ext, .map (ext_self _ _ _ _), ?_, by simp⟩
      show HF E P G W0 _ blks.get (h.next + 1) _
      rw [put_upd hb]; exact hnew

def afind (k : ByteArray) : List MapEntry → Nat → Option (Option (Nat × Value))
  | [], _ => some none
  | e :: es, i => match e.key with
    | .string s => match (s.data.toList == k.data.toList) with
      | true => some (some (i, e.val))
      | false => afind k es (i + 1)
    | _ => none
def ML (E : Nat → Option Value) (σ : Emb) (es es' : List MapEntry) : Prop := es.length = es'.length ∧ ∀ (i : Nat) e e', es[i]? = some e → es'[i]? = some e' → VR E σ e.key e'.key ∧ VR E σ e.val e'.val ∧ e.born = e'.born
theorem bytes_beq' (s k : ByteArray) : (s == k) = (s.data.toList == k.data.toList) := by
  rw [beq_toListBytes, ByteArray.toList_eq, ByteArray.toList_eq]
theorem run_checkKey' {kt : TypeId} (hkt : pund P kt = some .string) (em : Bool) (s : ByteArray) (w : World) (n : Nat) : (Instr.checkKey em (n + 1) kt (.string s)).run P w = .ok () w := by
  simp only [Instr.checkKey, Sem.run_bind, run_und, hkt, Result.andThen_ok, Sem.run_pure]
theorem run_checkKey {kt : TypeId} (hkt : pund P kt = some .string) (em : Bool) (s : ByteArray) (w : World) : (Instr.checkKey em 10000 kt (.string s)).run P w = .ok () w := run_checkKey' hkt em s w 9999
theorem sameBits_str (n : Nat) (s : ByteArray) : Instr.sameBits n (.string s) (.string s) = true := by
  cases n <;> simp [Instr.sameBits, bytes_beq']
theorem run_keyThatStays (s : ByteArray) (w : World) : (Instr.keyThatStays (.string s) (.string s)).run P w = .ok (.string s) w := by
  have h : Instr.sameBits 10000 (.string s) (.string s) = true := sameBits_str 10000 s
  unfold Instr.keyThatStays
  simp only [h, if_true, Sem.run_pure]
theorem afind_sound {k : ByteArray} : ∀ {es es' : List MapEntry} {i : Nat} {r : Option (Nat × Value)}, afind k es i = some r → ML E σ es es' →
    ∃ r', Instr.findNow .string (.string k) es' i = some r' ∧ (match r, r' with | none, none => True | some (j, v), some (j', v') => j = j' ∧ VR E σ v v' ∧ i ≤ j ∧ ∃ e', es'[j - i]? = some e' ∧ e'.key = .string k | _, _ => False) := by
  intro es
  induction es with
  | nil =>
    intro es' i r e hm
    simp only [afind] at e; injection e with e; subst e
    have : es' = [] := List.length_eq_zero_iff.1 hm.1.symm
    subst this
    exact ⟨none, rfl, trivial⟩
  | cons x es ih =>
    intro es' i r e hm
    cases es' with
    | nil => have := hm.1; simp at this
    | cons x' es' =>
      obtain ⟨hk, hv, hb⟩ := hm.2 0 x x' rfl rfl
      have hm' : ML E σ es es' := ⟨by have := hm.1; simpa using this, fun j e e' h1 h2 => hm.2 (j + 1) e e' (by simpa using h1) (by simpa using h2)⟩
      simp only [afind] at e
      split at e
      · rename_i s hs
        rw [hs] at hk
        have hk' := hk.string_inv
        have hsame : Instr.sameNow .string (.string k) x'.key = some (s.data.toList == k.data.toList) := by
          rw [hk']; simp only [Instr.sameNow]
          rw [bytes_beq', Bool.beq_comm]
        split at e
        · rename_i hb1
          injection e with e; subst e
          refine ⟨some (i, x'.val), ?_, rfl, hv, Nat.le_refl _, x', by simp, ?_⟩
          · simp only [Instr.findNow, hsame, hb1]
          · rw [hk']
            have h1 : s.data.toList = k.data.toList := by simpa using hb1
            have : s = k := ByteArray.ext (Array.toList_inj.1 h1)
            rw [this]
        · rename_i hb1
          obtain ⟨r', h1, h2⟩ := ih e hm'
          refine ⟨r', ?_, ?_⟩
          · simp only [Instr.findNow, hsame, hb1]; exact h1
          · cases r with
            | none => cases r' with
              | none => trivial
              | some p => exact h2.elim
            | some p =>
              obtain ⟨j, v⟩ := p
              cases r' with
              | none => exact h2.elim
              | some p' =>
                obtain ⟨j', v'⟩ := p'
                obtain ⟨e1, e2, e3, e', e4, e5⟩ := h2
                refine ⟨e1, e2, by omega, e', ?_, e5⟩
                rw [show j - i = (j - (i + 1)) + 1 from by omega, List.getElem?_cons_succ]; exact e4
      · cases e

def aLookup (P : Program) (h : AH) (t : TypeId) (x k : Value) (ok : Bool) : Option Value :=
  match pund P t, x, k with
  | some (.map kt e), .map (some b), .string s => match pund P kt with
    | some .string => match h.blks.get b with
      | some (.map es _) => match afind s es 0 with
        | some (some (_, v)) => match ok with
          | true => some (.tuple #[v, .bool true])
          | false => some v
        | some none => match zero? P e with
          | none => none
          | some z => match ok with
            | true => some (.tuple #[z, .bool false])
            | false => some z
        | none => none
      | _ => none
    | _ => none
  | _, _, _ => none
theorem run_aLookup (hR : HR E P G W0 σ h w) {t : TypeId} {x k x' k' v : Value} {ok : Bool} (e1 : aLookup P h t x k ok = some v) (hx : VR E σ x x') (hk : VR E σ k k') :
    ∃ v', VR E σ v v' ∧ (Instr.lookup t x' k' ok).run P w = .ok v' w := by
  unfold aLookup at e1
  split at e1
  · rename_i kt e b s hu
    split at e1
    · rename_i hkt
      split at e1
      · rename_i es clock hb
        cases hx with
        | lit q => simp [lit] at q
        | map hs =>
          rename_i b'
          obtain rfl := hk.string_inv
          obtain ⟨ob, h1, h2⟩ := hR.blk b _ b' hb hs
          cases h2 with
          | map hl he =>
            rename_i es'
            have hget : (getObj b').run P w = .ok (.map es' clock) w := by simp [getObj, Sem.run, h1]
            have hck : ∀ em : Bool, (Instr.checkKey em 10000 kt (.string s)).run P w = .ok () w := fun em => run_checkKey hkt em s w
            have hm : ML E σ es es'.toList := ⟨by simpa using hl, fun i e e' a b => he i e e' a (by simpa using b)⟩
            split at e1
            · rename_i j v0 hf
              obtain ⟨r', h3, h4⟩ := afind_sound hf hm
              cases r' with
              | none => exact h4.elim
              | some p =>
                obtain ⟨j', v'⟩ := p
                obtain ⟨_, h5, _⟩ := h4
                have hfk : (Instr.findKey kt (.string s) es'.toList).run P w = .ok (some (j', v')) w := by
                  simp [Instr.findKey, run_und, hkt, h3]
                cases ok with
                | true =>
                  simp only [] at e1; injection e1 with e1; subst e1
                  exact ⟨_, h5.pair true, by simp [Instr.lookup, run_und, hu, hget, hck, hfk]⟩
                | false =>
                  simp only [] at e1; injection e1 with e1; subst e1
                  exact ⟨_, h5, by simp [Instr.lookup, run_und, hu, hget, hck, hfk]⟩
            · rename_i hf
              obtain ⟨r', h3, h4⟩ := afind_sound hf hm
              cases r' with
              | some p => exact h4.elim
              | none =>
                have hfk : (Instr.findKey kt (.string s) es'.toList).run P w = .ok none w := by
                  simp [Instr.findKey, run_und, hkt, h3]
                split at e1
                · cases e1
                · rename_i z hz
                  cases ok with
                  | true =>
                    simp only [] at e1; injection e1 with e1; subst e1
                    exact ⟨_, (zero?_vr hz).pair false, by simp [Instr.lookup, run_und, hu, hget, hck, hfk, run_zero? hz]⟩
                  | false =>
                    simp only [] at e1; injection e1 with e1; subst e1
                    exact ⟨_, zero?_vr hz, by simp [Instr.lookup, run_und, hu, hget, hck, hfk, run_zero? hz]⟩
            · cases e1
      · cases e1
    · cases e1
  · cases e1

/-- one entry's value is another -/
def setAt : List MapEntry → Nat → Value → Value → List MapEntry
  | [], _, _, _ => []
  | e :: es, 0, k, v => { e with key := k, val := v } :: es
  | e :: es, i + 1, k, v => e :: setAt es i k v
theorem setAt_length : ∀ (es : List MapEntry) (i : Nat) (k v : Value), (setAt es i k v).length = es.length := by
  intro es; induction es with
  | nil => intros; rfl
  | cons e es ih => intro i k v; cases i <;> simp [setAt, ih]
theorem setAt_get : ∀ (es : List MapEntry) (i : Nat) (k v : Value) (j : Nat), (setAt es i k v)[j]? = if j = i then (es[j]?).map (fun e => { e with key := k, val := v }) else es[j]? := by
  intro es; induction es with
  | nil => intro i k v j; simp [setAt]
  | cons e es ih =>
    intro i k v j
    cases i with
    | zero => cases j <;> simp [setAt]
    | succ i => cases j <;> simp [setAt, ih]
def aMapUpdate (P : Program) (G : Nat) (h : AH) (t : TypeId) (x k v : Value) : Option AH :=
  match pund P t, x, k with
  | some (.map kt _), .map (some b), .string s => match pund P kt with
    | some .string => match Nat.ble G b with
      | false => none
      | true => match h.blks.get b with
        | some (.map es clock) => match afind s es 0 with
          | some (some (j, _)) => match h.blks.put D b (some (.map (setAt es j (.string s) v) clock)) with
            | some blks => some { h with blks := blks }
            | none => none
          | some none => match h.blks.put D b (some (.map (es ++ [{ key := .string s, val := v, born := clock }]) (clock + 1))) with
            | some blks => some { h with blks := blks }
            | none => none
          | none => none
        | _ => none
    | _ => none
  | _, _, _ => none
theorem run_aMapUpdate (hR : HR E P G W0 σ h w) {t : TypeId} {x k v x' k' v' : Value} {h' : AH} (e1 : aMapUpdate P G h t x k v = some h') (hx : VR E σ x x') (hk : VR E σ k k') (hv : VR E σ v v') :
    ∃ w', (Instr.mapUpdate t x' k' v').run P w = .ok () w' ∧ HR E P G W0 σ h' w' ∧ h'.next = h.next := by
  unfold aMapUpdate at e1
  split at e1
  · rename_i kt e b s hu
    split at e1
    · rename_i hkt
      split at e1
      · cases e1
      · rename_i hG
        split at e1
        · rename_i es clock hb
          cases hx with
          | lit q => simp [lit] at q
          | map hs =>
            rename_i b'
            obtain rfl := hk.string_inv
            obtain ⟨ob, h1, h2⟩ := hR.blk b _ b' hb hs
            have hlt := (hR.dom b b' hs).2
            cases h2 with
            | map hl he =>
              rename_i es'
              have hget : (getObj b').run P w = .ok (.map es' clock) w := by simp [getObj, Sem.run, h1]
              have hset : ∀ es2 c2, (setObj b' (.map es2 c2)).run P w = .ok () { w with heap := w.heap.setIfInBounds b' (.map es2 c2) } := by
                intro es2 c2; simp [setObj, Sem.run, h1]
              have hheap : ∀ es2 c2 j, ({ w with heap := w.heap.setIfInBounds b' (.map es2 c2) } : World).heap[j]? = if j = b' then some (.map es2 c2) else w.heap[j]? := by
                intro es2 c2 j
                by_cases hj : j = b'
                · subst hj; simp [hlt]
                · simp [hj, Array.getElem?_setIfInBounds_ne (fun e => hj e.symm)]
              have hck : ∀ em : Bool, (Instr.checkKey em 10000 kt (.string s)).run P w = .ok () w := fun em => run_checkKey hkt em s w
              have hm : ML E σ es es'.toList := ⟨by simpa using hl, fun i e e' a b => he i e e' a (by simpa using b)⟩
              split at e1
              · rename_i j v0 hf
                obtain ⟨r', h3, h4⟩ := afind_sound hf hm
                cases r' with
                | none => exact h4.elim
                | some p =>
                  obtain ⟨j', v''⟩ := p
                  obtain ⟨rfl, h5, _, e', h6, h7⟩ := h4
                  have hfk : (Instr.findKey kt (.string s) es'.toList).run P w = .ok (some (j, v'')) w := by
                    simp [Instr.findKey, run_und, hkt, h3]
                  have h6' : es'[j]? = some e' := by simpa using h6
                  have hst := run_keyThatStays (P := P) s w
                  split at e1
                  · rename_i blks hbl
                    injection e1 with e1; subst e1
                    refine ⟨_, by simp only [Instr.mapUpdate, Sem.run_bind, run_und, hu, Result.andThen_ok, hget, hck, hfk, h6', Option.map_some, Option.getD_some, h7, hst, hset]; rfl, ?_, rfl⟩
                    show HF E P G W0 σ blks.get h.next _
                    rw [put_upd hbl]
                    refine hR.turn (ble_true hG) hb hs (o' := .map (setAt es j (.string s) v) clock) (ob' := .map (es'.modify j fun e => { e with key := .string s, val := v' }) clock) ?_ (hheap _ _) (by simp)
                    refine .map (by rw [setAt_length]; simpa using hl) (fun i a a' ha ha' => ?_)
                    rw [setAt_get] at ha
                    rw [Array.getElem?_modify] at ha'
                    by_cases hij : i = j
                    · subst hij
                      rw [if_pos rfl] at ha ha'
                      cases hea : es[i]? with
                      | none => rw [hea] at ha; cases ha
                      | some a0 =>
                        rw [hea] at ha; rw [h6'] at ha'
                        simp only [Option.map_some] at ha ha'
                        injection ha with ha; injection ha' with ha'; subst ha ha'
                        exact ⟨.string _, hv, (he i a0 e' hea h6').2.2⟩
                    · rw [if_neg hij] at ha
                      rw [if_neg (fun e => hij e.symm)] at ha'
                      exact he i a a' ha ha'
                  · cases e1
              · rename_i hf
                obtain ⟨r', h3, h4⟩ := afind_sound hf hm
                cases r' with
                | some p => exact h4.elim
                | none =>
                  have hfk : (Instr.findKey kt (.string s) es'.toList).run P w = .ok none w := by
                    simp [Instr.findKey, run_und, hkt, h3]
                  split at e1
                  · rename_i blks hbl
                    injection e1 with e1; subst e1
                    refine ⟨_, by simp only [Instr.mapUpdate, Sem.run_bind, run_und, hu, Result.andThen_ok, hget, hck, hfk, hset]; rfl, ?_, rfl⟩
                    show HF E P G W0 σ blks.get h.next _
                    rw [put_upd hbl]
                    refine hR.turn (ble_true hG) hb hs (o' := .map (es ++ [{ key := .string s, val := v, born := clock }]) (clock + 1)) (ob' := .map (es'.push { key := .string s, val := v', born := clock }) (clock + 1)) ?_ (hheap _ _) (by simp)
                    refine .map (by simpa using hl) (fun i a a' ha ha' => ?_)
                    by_cases hi : i < es.length
                    · rw [List.getElem?_append_left hi] at ha
                      rw [Array.getElem?_push, if_neg (by omega)] at ha'
                      exact he i a a' ha ha'
                    · rw [List.getElem?_append_right (by omega)] at ha
                      rw [Array.getElem?_push] at ha'
                      by_cases hi2 : i = es'.size
                      · rw [if_pos hi2] at ha'
                        have e0 : i - es.length = 0 := by omega
                        rw [e0] at ha
                        simp only [List.getElem?_cons_zero] at ha
                        injection ha with ha; injection ha' with ha'; subst ha ha'
                        exact ⟨.string _, hv, rfl⟩
                      · rw [if_neg hi2] at ha'
                        have := (Array.getElem?_eq_some_iff.1 ha').1
                        omega
                  · cases e1
              · cases e1
        · cases e1
    · cases e1
  · cases e1

/-! ### ranging over a string -/
def aRange (P : Program) (G : Nat) (h : AH) (t : TypeId) (x : Value) : Option (Value × AH) :=
  match pund P t, x with
  | some .string, .string s => match Nat.ble G h.next with
    | false => none
    | true => match h.blks.put D h.next (some (.iter s 0)) with
      | none => none
      | some blks => some (.pointer (some ⟨h.next, 0, none⟩), { blks := blks, next := h.next + 1 })
  | _, _ => none
theorem run_aRange (hR : HR E P G W0 σ h w) {t : TypeId} {x x' v : Value} {h' : AH} (e1 : aRange P G h t x = some (v, h')) (hx : VR E σ x x') :
    Did E P G W0 σ h w (Instr.range t x') v h' := by
  unfold aRange at e1
  split at e1
  · rename_i s hu
    split at e1
    · cases e1
    · rename_i hG
      split at e1
      · cases e1
      · rename_i blks hb
        injection e1 with e1; injection e1 with e1 e2; subst e1 e2
        obtain rfl := hx.string_inv
        have hnew := hR.alloc (k := 0) (o := .iter s 0) (ob := .stringIter s 0) .iter (ble_true hG) (w' := w.alloc (.stringIter s 0)) rfl
        refine ⟨ext σ h.next w.heap.size 0, .pointer (some ⟨w.heap.size, 0, none⟩), _, by simp [Instr.range, run_und, hu]; rfl, Ext.ext, .ptr (ext_self _ _ _ _), ?_, by simp⟩
        show HF E P G W0 _ blks.get (h.next + 1) _
        rw [put_upd hb]; exact hnew
  · cases e1
def aNext (G : Nat) (h : AH) (x : Value) (isString : Bool) : Option (Value × AH) :=
  match x, isString with
  | .pointer (some ⟨b, 0, none⟩), true => match Nat.ble G b with
    | false => none
    | true => match h.blks.get b with
      | some (.iter s pos) => match Nat.ble (pos + 1) s.data.toList.length with
        | false => some (.tuple #[.bool false], h)
        | true => match Utf8.decode s pos with
          | (c, width) => match h.blks.put D b (some (.iter s (pos + width))) with
            | none => none
            | some blks => some (.tuple #[.bool true, .int .i64 pos, .int .i32 c], { h with blks := blks })
      | _ => none
  | _, _ => none
theorem run_aNext (hR : HR E P G W0 σ h w) {ty : TypeId} {x x' v : Value} {st : Bool} {h' : AH} (e1 : aNext G h x st = some (v, h')) (hx : VR E σ x x') :
    Did E P G W0 σ h w (Instr.next x' st ty) v h' := by
  unfold aNext at e1
  split at e1
  · rename_i b
    split at e1
    · cases e1
    · rename_i hG
      split at e1
      · rename_i s pos hb
        cases hx with
        | lit q => simp [lit] at q
        | ptr hs =>
          rename_i b'
          obtain ⟨ob, h1, h2⟩ := hR.blk b _ b' hb hs
          have hlt := (hR.dom b b' hs).2
          cases h2 with
          | iter =>
            have hget : (getObj b').run P w = .ok (.stringIter s pos) w := by simp [getObj, Sem.run, h1]
            have hss : s.data.toList.length = s.size := by simp
            split at e1
            · rename_i hp
              have hp := ble_false hp
              injection e1 with e1; injection e1 with e1 e2; subst e1 e2
              have hp' : ¬ (pos < s.size) := by omega
              refine ⟨σ, .tuple #[.bool false], w, by simp [Instr.next, hget, hp'], Ext.refl _ _, ?_, hR, Nat.le_refl _⟩
              exact flat_vr rfl
            · rename_i hp
              have hp := ble_true hp
              have hp' : pos < s.size := by omega
              split at e1
              rename_i c width hdec
              split at e1
              · cases e1
              · rename_i blks hbl
                injection e1 with e1; injection e1 with e1 e2; subst e1 e2
                have hset : (setObj b' (.stringIter s (pos + width))).run P w = .ok () { w with heap := w.heap.setIfInBounds b' (.stringIter s (pos + width)) } := by
                  simp [setObj, Sem.run, h1]
                refine ⟨σ, .tuple #[.bool true, .int .i64 pos, .int .i32 c], { w with heap := w.heap.setIfInBounds b' (.stringIter s (pos + width)) }, ?_, Ext.refl _ _, ?_, ?_, Nat.le_refl _⟩
                · simp only [Instr.next, Sem.run_bind, hget, Result.andThen_ok, hp', if_true, hdec, hset, Sem.run_pure, goInt]
                · exact flat_vr rfl
                · show HF E P G W0 σ blks.get h.next _
                  rw [put_upd hbl]
                  refine hR.turn (ble_true hG) hb hs (o' := .iter s (pos + width)) (ob' := .stringIter s (pos + width)) .iter (fun j => ?_) (by simp)
                  by_cases hj : j = b'
                  · subst hj; simp [hlt]
                  · simp [hj, Array.getElem?_setIfInBounds_ne (fun e => hj e.symm)]
      · cases e1
  · cases e1

end
end Go.Ev
