/- Ev: append, copy, conversions, maps, iterators. -/
import Derived.Test.YtnaodplcionlhaaGreatDoorEvF
import Derived.Deep.DeepAppendWide
namespace Go.Ev
noncomputable section
set_option linter.unusedVariables false
set_option linter.unusedSimpArgs false
variable {P : Program} {G : Nat} {W0 : World} {E : Nat → Option Value} {σ : Emb} {h : AH} {w : World}

/-- what is appended, or copied: how many, and their cells -/
def asrc (P : Program) (h : AH) (sz : Nat) (x : Value) : Option (Nat × List Value) :=
  match x with
  | .slice none 0 0 => some (0, [])
  | .slice (some ⟨b, o, none⟩) n _ => match getRow h b with
    | none => none
    | some r => match reads P r o (n * sz) with
      | none => none
      | some l => some (n, l)
  | .slice (some ⟨0, 0, some 7⟩) 0 0 => some (0, [])
  | .string s => some (s.data.toList.length, s.data.toList.map fun b => .int .u8 b.toNat)
  | _ => none
theorem asrc_sound (hR : HR E P G W0 σ h w) {sz n : Nat} {x x' : Value} {l : List Value} (e : asrc P h sz x = some (n, l)) (hx : VR E σ x x') :
    ∃ l', VL E σ l l' ∧ (Builtin.lenOf x').run P w = .ok n w ∧ (∀ w₁ : World, (Builtin.lenOf x').run P w₁ = .ok n w₁) ∧ ∀ w₁ : World, w₁.heap = w.heap → (Builtin.firstCells sz n x').run P w₁ = .ok l'.toArray w₁ := by
  unfold asrc at e
  split at e
  · injection e with e; injection e with e1 e2; subst e1 e2
    have : x' = .slice none 0 0 := by cases hx; rfl
    subst this
    exact ⟨[], VL.nil, by simp [Builtin.lenOf], fun w₁ => by simp [Builtin.lenOf], fun w₁ _ => by simp [Builtin.firstCells]⟩
  · cases hx with
    | lit q => simp [lit] at q
    | slice hs hc =>
      split at e
      · cases e
      · rename_i r hr
        split at e
        · cases e
        · rename_i l0 hl
          injection e with e; injection e with e1 e2; subst e1 e2
          obtain ⟨l', h1, h2⟩ := reads_sound hR hr hs hl
          refine ⟨l', h1, by simp [Builtin.lenOf], fun w₁ => by simp [Builtin.lenOf], fun w₁ hw => ?_⟩
          refine run_firstCells_some w₁ sz _ _ _ _ l' ?_ (fun j v hv => ?_)
          · rw [← h1.1, reads_length hl]
          · rw [add_none]
            have := h2 j v hv
            simpa [World.cell?, hw] using this
  · injection e with e; injection e with e1 e2; subst e1 e2
    cases hx with
    | lit q => simp [lit] at q
    | empty => exact ⟨[], VL.nil, by simp [Builtin.lenOf], fun w₁ => by simp [Builtin.lenOf], fun w₁ _ => by simp [Builtin.firstCells, loadCells, loadCellsFrom]⟩
  · injection e with e; injection e with e1 e2; subst e1 e2
    obtain rfl := hx.string_inv
    rename_i s
    refine ⟨_, VL.lits (by simp only [List.all_map, List.all_eq_true]; intro b _; rfl), by simp [Builtin.lenOf], fun w₁ => by simp [Builtin.lenOf], fun w₁ _ => ?_⟩
    have := Go.Lib.run_firstCells_string (P := P) w₁ sz s
    have e : s.size = s.data.toList.length := by simp
    rw [e] at this
    exact this
  · cases e

def isIntD : TypeDesc → Bool
  | .int _ => true
  | _ => false
theorem run_append_fits' {t tx ty e : TypeId} {d : TypeDesc} {i : TypeInfo} (ht : pund P t = some (.slice e)) (hi : pinfo P e = some i) (htx : pund P tx = some d) (hd : isIntD d = false)
    {base : Option Addr} {sLen sCap n : Nat} {x : Value} {new : List Value} (hn : ∀ w₁ : World, (Builtin.lenOf x).run P w₁ = .ok n w₁) (hx : (Builtin.firstCells i.size n x).run P w = .ok new.toArray w) (hle : sLen + n ≤ sCap)
    {w' : World} (hst : match base with | some a => (storeCells (a.add (sLen * i.size)) new).run P w = .ok () w' | none => w' = w) :
    (Builtin.append_ #[t, tx] ty #[.slice base sLen sCap, x]).run P w = .ok (.slice base (sLen + n) sCap) w' := by
  cases base with
  | none =>
    simp only [] at hst; subst hst
    cases d <;> first | (cases hd; done) | simp only [Builtin.append_, Sem.run_bind, run_und, ht, htx, Result.andThen_ok, run_size hi, List.getElem?_toArray, List.getElem?_cons_zero, List.getElem?_cons_succ, Bool.false_eq_true, if_false, Sem.run_pure, hn, hle, if_true, hx, Bool.not_false]
  | some a =>
    simp only [] at hst
    cases d <;> first | (cases hd; done) | simp only [Builtin.append_, Sem.run_bind, run_und, ht, htx, Result.andThen_ok, run_size hi, List.getElem?_toArray, List.getElem?_cons_zero, List.getElem?_cons_succ, Bool.false_eq_true, if_false, Sem.run_pure, hn, hle, if_true, hx, hst, Bool.not_false]

theorem run_append_grows' {t tx ty e : TypeId} {d : TypeDesc} {i : TypeInfo} {z : Value} (ht : pund P t = some (.slice e)) (hi : pinfo P e = some i) (hz : i.zero = some z) (htx : pund P tx = some d) (hd : isIntD d = false)
    {base : Option Addr} {sLen sCap n : Nat} {x : Value} {old new : List Value} (hn : ∀ w₁ : World, (Builtin.lenOf x).run P w₁ = .ok n w₁) (hx : (Builtin.firstCells i.size n x).run P w.drew = .ok new.toArray w.drew)
    (hold : (Builtin.firstCells i.size sLen (.slice base sLen sCap)).run P w.drew = .ok old.toArray w.drew) (hg : sCap < sLen + n) (hfit : (sLen + n + (sLen + n) / 4 + 192) * i.bytes ≤ 281474976710656) (hneed : sLen + n ≤ 1000000000) :
    (Builtin.append_ #[t, tx] ty #[.slice base sLen sCap, x]).run P w =
      .ok (.slice (some ⟨w.heap.size, 0, none⟩) (sLen + n) (grownCap w (sLen + n) sCap e)) (w.drew.alloc (.cells (old.toArray ++ new.toArray ++ Builtin.zeroCells z.cells (grownCap w (sLen + n) sCap e - (sLen + n))) e)) := by
  have hn' : ¬ (sLen + n ≤ sCap) := by omega
  have h63' : ¬ (((sLen + n : Nat) : Int) > IntKind.i64.max) := by
    have : IntKind.i64.max = 9223372036854775807 := by rfl
    rw [this]; omega
  have h48 := growslice_fits_wide hg hfit
  have h48' : ¬ (Builtin.nextslicecap (sLen + n) sCap * i.bytes > 2 ^ 48) := by omega
  have hch : (choose (.appendCap (sLen + n) sCap e)).run P w = .ok (grownCap w (sLen + n) sCap e) w.drew := by
    rw [run_choose]; simp [Question.forced, grownCap]
  cases d <;> first | (cases hd; done) | (simp only [Builtin.append_, Sem.run_bind, run_und, ht, htx, Result.andThen_ok, run_size hi, List.getElem?_toArray, List.getElem?_cons_zero, List.getElem?_cons_succ, Bool.false_eq_true, if_false, Sem.run_pure, hn, hn',
    h63', false_and, run_info, hi, h48', hch, run_askRoom, hold, hx, run_zero hi hz, newRow, run_newObj, Bool.not_false, if_true]; rfl)

theorem reads_get {r : Row} : ∀ {n o : Nat} {l : List Value}, reads P r o n = some l → ∀ i, i < n → l[i]? = r.get P (o + i) := by
  intro n
  induction n with
  | zero => intro o l e i hi; omega
  | succ n ih =>
    intro o l e i hi
    simp only [reads] at e
    split at e
    · cases e
    · rename_i v hv
      split at e
      · cases e
      · rename_i l₁ hl
        injection e with e; subst e
        cases i with
        | zero => simpa using hv.symm
        | succ i =>
          rw [List.getElem?_cons_succ, ih hl i (by omega)]
          congr 1; omega

/-- cells are written into a row, wherever it has room -/
theorem run_store_raw {c o : Nat} {el : TypeId} {fz : Nat × Nat} : ∀ (vs : List Value) (i : Nat) (cs : Array Value) (w : World), w.heap[c]? = some (.cells cs el fz) → o + i + vs.length ≤ cs.size →
    (∀ v ∈ vs, v.oneCell' = true) → (∀ j, j < cs.size → ¬ (fz.1 ≤ j ∧ j < fz.2)) →
    ∃ w', (storeCells ⟨c, o, none⟩ vs i).run P w = .ok () w' ∧ (∀ k, w'.heap[k]? = if k = c then some (.cells (splice cs.toList (o + i) vs).toArray el fz) else w.heap[k]?) ∧ w'.heap.size = w.heap.size ∧ Quiet w w' := by
  intro vs
  induction vs with
  | nil =>
    intro i cs w hc _ _ _
    refine ⟨w, rfl, fun k => ?_, rfl, rfl, rfl⟩
    have : splice cs.toList (o + i) [] = cs.toList := by cases cs.toList <;> rfl
    rw [this]
    by_cases hk : k = c
    · subst hk; rw [if_pos rfl, hc]
    · rw [if_neg hk]
  | cons v vs ih =>
    intro i cs w hc hle h1 hf
    simp only [List.length_cons] at hle
    have hlt : o + i < cs.size := by omega
    have hcell : w.cell? ⟨c, o + i, none⟩ = some cs[o + i] := by simp [World.cell?, hc, hlt]
    have hfz : w.frozen? ⟨c, o + i, none⟩ = false := by
      have := hf _ hlt
      simp only [World.frozen?, hc]
      obtain ⟨lo, hi⟩ := fz
      rcases Nat.lt_or_ge (o + i) lo with h' | h'
      · simp; omega
      · have : ¬ o + i < hi := fun hh => this ⟨h', hh⟩
        simp; omega
    have hheap : ∀ k, (w.setCell ⟨c, o + i, none⟩ v).heap[k]? = if k = c then some (.cells (cs.setIfInBounds (o + i) v) el fz) else w.heap[k]? := by
      intro k
      by_cases hk : k = c
      · subst hk
        simp [World.setCell, Array.getElem?_modify, hc]
      · simp [World.setCell, Array.getElem?_modify, hk, Ne.symm hk, fun e => hk (Eq.symm e)]
    have hsz : (w.setCell ⟨c, o + i, none⟩ v).heap.size = w.heap.size := by simp [World.setCell]
    obtain ⟨w', h2, h3, h4, h5q⟩ := ih (i + 1) (cs.setIfInBounds (o + i) v) (w.setCell ⟨c, o + i, none⟩ v) (by rw [hheap, if_pos rfl]) (by simp; omega) (fun u hu => h1 u (List.mem_cons_of_mem _ hu)) (by simpa using hf)
    refine ⟨w', ?_, fun k => ?_, h4.trans hsz, h5q.1.trans rfl, h5q.2.trans rfl⟩
    · simp only [storeCells, Sem.run_bind, add_none, run_store P w _ _ _ (h1 v List.mem_cons_self), hcell, hfz, Bool.false_eq_true, if_false, Result.andThen_ok]
      exact h2
    · rw [h3, hheap]
      by_cases hk : k = c
      · rw [if_pos hk, if_pos hk]
        congr 3
        apply List.ext_getElem?
        intro j
        rw [splice_get _ _ _ _ (by simp; omega), splice_get _ _ _ _ (by simp; omega)]
        simp only [Array.toList_setIfInBounds, List.length_cons]
        by_cases h1 : o + (i + 1) ≤ j ∧ j < o + (i + 1) + vs.length
        · rw [if_pos h1, if_pos (by omega)]
          have e : j - (o + i) = (j - (o + (i + 1))) + 1 := by omega
          rw [e, List.getElem?_cons_succ]
        · rw [if_neg h1]
          by_cases h2 : j = o + i
          · subst h2
            rw [if_pos (by omega), List.getElem?_set_self (by simp; omega)]
            simp
          · rw [if_neg (by omega), List.getElem?_set_ne (by omega)]
      · rw [if_neg hk, if_neg hk, if_neg hk]

def aapIn (G : Nat) (h : AH) (sz n : Nat) (news : List Value) (base : Option Addr) (sLen sCap : Nat) : Option (Value × AH) :=
  match n with
  | 0 => match news with
    | [] => some (.slice base sLen sCap, h)
    | _ :: _ => none
  | _ + 1 => match base with
    | some ⟨b, o, none⟩ => match Nat.ble G b with
      | false => none
      | true => match writes h b (o + sLen * sz) news with
        | none => none
        | some h' => some (.slice base (sLen + n) sCap, h')
    | _ => none
def aapNil (G : Nat) (h : AH) (e : TypeId) (n : Nat) (news : List Value) : Option (Value × AH) :=
  match newRow? G h e false news with
  | some (.pointer (some a), h') => some (.slice (some a) n n, h')
  | _ => none
def aapGrow (P : Program) (G : Nat) (h : AH) (e : TypeId) (sz n : Nat) (news : List Value) (b sLen sCap : Nat) : Option (Value × AH) :=
  match Nat.ble G b && Nat.ble G h.next && Nat.ble sLen sCap && news.all Value.oneCell' with
  | false => none
  | true => match getRow h b with
    | none => none
    | some r => match Nat.beq r.elem e && Nat.ble (sCap * sz) r.n with
      | false => none
      | true => match reads P r 0 (sLen * sz) with
        | none => none
        | some _ => match r.cells.puts D (sLen * sz) news with
          | none => none
          | some cells => match h.blks.put D b none with
            | none => none
            | some blks => match blks.put D h.next (some (.row ⟨cells, (sLen + n) * sz, e, false⟩)) with
              | none => none
              | some blks => some (.slice (some ⟨h.next, 0, none⟩) (sLen + n) (sLen + n), { blks := blks, next := h.next + 1 })
/-- a row whose room is known to the last: what is appended goes into a new block -/
def aapFresh (P : Program) (G : Nat) (h : AH) (e : TypeId) (sz n : Nat) (news : List Value) (r : Row) (o sLen : Nat) : Option (Value × AH) :=
  match reads P r o (sLen * sz) with
  | none => none
  | some olds => match newRow? G h e false (olds ++ news) with
    | some (.pointer (some a), h') => some (.slice (some a) (sLen + n) (sLen + n), h')
    | _ => none
def aapOld (P : Program) (G : Nat) (h : AH) (e : TypeId) (sz n : Nat) (news : List Value) (b o sLen sCap : Nat) : Option (Value × AH) :=
  match getRow h b with
  | none => none
  | some r => match r.exact with
    | true => aapFresh P G h e sz n news r o sLen
    | false => match o with
      | 0 => aapGrow P G h e sz n news b sLen sCap
      | _ + 1 => none
/-- append -/
def aappend (P : Program) (G : Nat) (h : AH) (t tx : TypeId) (s x : Value) : Option (Value × AH) :=
  match pund P t with
  | some (.slice e) => match pinfo P e with
    | none => none
    | some inf => match pund P tx with
      | none => none
      | some d => match isIntD d with
        | true => none
        | false => match asrc P h inf.size x with
          | none => none
          | some (n, news) => match Nat.beq news.length (n * inf.size) with
            | false => none
            | true => match s with
              | .slice base sLen sCap => match Nat.ble (sLen + n) sCap with
                | true => aapIn G h inf.size n news base sLen sCap
                | false => match zero? P e with
                    | none => none
                    | some z => match Nat.ble (sLen + n) zmax && Nat.ble inf.bytes 10000 && Nat.beq z.cells.size inf.size with
                      | false => none
                      | true => match base with
                          | none => match sLen with
                            | 0 => aapNil G h e n news
                            | _ + 1 => none
                          | some ⟨b, o, none⟩ => aapOld P G h e inf.size n news b o sLen sCap
                          | _ => none
              | _ => none
  | _ => none

section
variable {t tx ty e : TypeId} {d : TypeDesc} {inf : TypeInfo} {n : Nat} {news news' : List Value} {x' : Value}
theorem run_aapIn (ht : pund P t = some (.slice e)) (hi : pinfo P e = some inf) (htx : pund P tx = some d) (hd : isIntD d = false)
    (hR : HR E P G W0 σ h w) (hv : VL E σ news news')
    (hn : ∀ w₁ : World, (Builtin.lenOf x').run P w₁ = .ok n w₁) (hf : ∀ w₁ : World, w₁.heap = w.heap → (Builtin.firstCells inf.size n x').run P w₁ = .ok news'.toArray w₁)
    {base : Option Addr} {sLen sCap : Nat} {s' v : Value} {h' : AH} (e1 : aapIn G h inf.size n news base sLen sCap = some (v, h')) (hs : VR E σ (.slice base sLen sCap) s') (hle : sLen + n ≤ sCap) :
    ∃ σ' v' w', (Builtin.append_ #[t, tx] ty #[s', x']).run P w = .ok v' w' ∧ Ext h.next σ σ' ∧ VR E σ' v v' ∧ HR E P G W0 σ' h' w' ∧ h.next ≤ h'.next := by
  unfold aapIn at e1
  split at e1
  · split at e1
    · injection e1 with e1; injection e1 with e1 e2; subst e1 e2
      obtain rfl := hv.of_nil
      obtain ⟨base', c', rfl, hc⟩ : ∃ base' c', s' = .slice base' sLen c' ∧ sCap ≤ c' := by
        cases hs with
        | lit q => exact ⟨_, _, rfl, Nat.le_refl _⟩
        | slice hs hc => exact ⟨_, _, rfl, by omega⟩
        | empty => exact ⟨_, _, rfl, Nat.zero_le _⟩
      refine ⟨σ, _, w, run_append_fits' (new := []) ht hi htx hd hn (by simpa using hf w rfl) (by omega) ?_, Ext.refl _ _, hs, hR, Nat.le_refl _⟩
      cases base' <;> simp [storeCells]
    · cases e1
  · rename_i n0
    split at e1
    · rename_i b o
      split at e1
      · cases e1
      · rename_i hG
        split at e1
        · cases e1
        · rename_i h'' hw
          injection e1 with e1; injection e1 with e1 e2; subst e1 e2
          cases hs with
          | lit q => simp [lit] at q
          | slice hs hc =>
            obtain ⟨w', h1, h2, h3⟩ := run_writes hR (ble_true hG) hs hw hv
            refine ⟨σ, _, w', run_append_fits' (new := news') ht hi htx hd hn (hf w rfl) (by omega) (w' := w') ?_, Ext.refl _ _, .slice hs hc, h2, by omega⟩
            simp only [add_none]
            exact h1
    · cases e1

theorem run_aapNil (ht : pund P t = some (.slice e)) (hi : pinfo P e = some inf) (htx : pund P tx = some d) (hd : isIntD d = false)
    (hR : HR E P G W0 σ h w) (hv : VL E σ news news')
    (hn : ∀ w₁ : World, (Builtin.lenOf x').run P w₁ = .ok n w₁) (hf : ∀ w₁ : World, w₁.heap = w.heap → (Builtin.firstCells inf.size n x').run P w₁ = .ok news'.toArray w₁)
    {sCap : Nat} {z : Value} (hz : inf.zero = some z) (hzs : z.cells.size = inf.size) (hl : news.length = n * inf.size) (hm : n ≤ zmax) (hb : inf.bytes ≤ 10000) {v : Value} {h' : AH} (e1 : aapNil G h e n news = some (v, h')) (hlt : sCap < n) :
    ∃ σ' v' w', (Builtin.append_ #[t, tx] ty #[.slice none 0 sCap, x']).run P w = .ok v' w' ∧ Ext h.next σ σ' ∧ VR E σ' v v' ∧ HR E P G W0 σ' h' w' ∧ h.next ≤ h'.next := by
  unfold aapNil at e1
  split at e1
  · rename_i a h'' hnew
    injection e1 with e1; injection e1 with e1 e2; subst e1 e2
    unfold zmax at hm
    have hfit : (0 + n + (0 + n) / 4 + 192) * inf.bytes ≤ 281474976710656 := by
      have : (0 + n + (0 + n) / 4 + 192) * inf.bytes ≤ 2000000 * 10000 := Nat.mul_le_mul (by omega) hb
      omega
    have hrun := run_append_grows' (w := w) (base := none) (sLen := 0) (sCap := sCap) (ty := ty) (old := []) (new := news') ht hi hz htx hd hn (hf w.drew rfl) (by simp [Builtin.firstCells]) (by omega) hfit (by omega)
    have hge := grownCap_ge w (0 + n) sCap e
    have hse : sizeOf? P e = inf.size := by simp [sizeOf?, hi]
    obtain ⟨e4, e5, e6⟩ := run_newRow? (hR.of_heap (w' := w.drew) rfl) hnew hv (([] : List Value).toArray ++ news'.toArray ++ Builtin.zeroCells z.cells (grownCap w (0 + n) sCap e - (0 + n))) (.inr ⟨Builtin.zeroCells z.cells (grownCap w (0 + n) sCap e - (0 + n)), by simp⟩) (k := grownCap w (0 + n) sCap e - (0 + n)) (by
      have h1 := hv.1
      rw [hse]
      simp [Builtin.zeroCells, hzs]
      omega) (fun hh => by cases hh)
    injection e4 with e4; injection e4 with e4; subst e4
    refine ⟨_, _, _, hrun, Ext.ext, ?_, e6, by omega⟩
    have hx : VR E (ext σ h.next w.drew.heap.size (grownCap w (0 + n) sCap e - (0 + n))) (.slice (some ⟨h.next, 0, none⟩) (0 + n) (0 + n)) (.slice (some ⟨w.heap.size, 0, none⟩) (0 + n) (grownCap w (0 + n) sCap e)) :=
      .slice (ext_self _ _ _ _) (.inr (by rw [ext_sl]; omega))
    simpa only [Nat.zero_add] using hx
  · cases e1
theorem run_aapGrow (ht : pund P t = some (.slice e)) (hi : pinfo P e = some inf) (htx : pund P tx = some d) (hd : isIntD d = false)
    (hR : HR E P G W0 σ h w) (hv : VL E σ news news')
    (hn : ∀ w₁ : World, (Builtin.lenOf x').run P w₁ = .ok n w₁) (hf : ∀ w₁ : World, w₁.heap = w.heap → (Builtin.firstCells inf.size n x').run P w₁ = .ok news'.toArray w₁)
    {b c sLen sCap c' : Nat} {z : Value} (hz : inf.zero = some z) (hzs : z.cells.size = inf.size) (hl : news.length = n * inf.size) (hm : sLen + n ≤ zmax) (hb : inf.bytes ≤ 10000) {v : Value} {h' : AH} (hs : σ b = some c) (hc : c' = sCap ∨ c' = sCap + σ.sl b) (e1 : aapGrow P G h e inf.size n news b sLen sCap = some (v, h')) (hlt : sCap < sLen + n) :
    ∃ σ' v' w', (Builtin.append_ #[t, tx] ty #[.slice (some ⟨c, 0, none⟩) sLen c', x']).run P w = .ok v' w' ∧ Ext h.next σ σ' ∧ VR E σ' v v' ∧ HR E P G W0 σ' h' w' ∧ h.next ≤ h'.next := by
  unfold aapGrow at e1
  split at e1
  · cases e1
  · rename_i hcond
    simp only [Bool.and_eq_true] at hcond
    obtain ⟨⟨⟨hG, hGn⟩, hlc⟩, hone⟩ := hcond
    have hG := ble_true hG
    have hGn := ble_true hGn
    have hlc := ble_true hlc
    split at e1
    · cases e1
    · rename_i r hr
      split at e1
      · cases e1
      · rename_i hcond2
        simp only [Bool.and_eq_true] at hcond2
        have hre := Trie.beq_true hcond2.1
        have hrn := ble_true hcond2.2
        split at e1
        · cases e1
        · rename_i olds ho
          split at e1
          · cases e1
          · rename_i cells hcl
            split at e1
            · cases e1
            · rename_i blks1 hb1
              split at e1
              · cases e1
              · rename_i blks2 hb2
                injection e1 with e1; injection e1 with e1 e2; subst e1 e2
                have hse : sizeOf? P e = inf.size := by simp [sizeOf?, hi]
                have hmul : (sLen + n) * inf.size = sLen * inf.size + n * inf.size := Nat.add_mul _ _ _
                have hmulc : sLen * inf.size ≤ sCap * inf.size := Nat.mul_le_mul_right _ hlc
                -- what the new row holds
                have hrow : ∀ (i : Nat) (u : Value), (⟨cells, (sLen + n) * inf.size, e, false⟩ : Row).get P i = some u →
                    (i < sLen * inf.size ∧ r.get P i = some u) ∨ (sLen * inf.size ≤ i ∧ i < (sLen + n) * inf.size ∧ news[i - sLen * inf.size]? = some u) := by
                  intro i u hu
                  have hlt' := Row.get_lt hu
                  simp only at hlt'
                  have hbl : Nat.ble (Nat.succ i) ((sLen + n) * inf.size) = true := Nat.ble_eq_true_of_le hlt'
                  unfold Row.get at hu
                  simp only [hbl, Trie.get_puts _ _ _ _ _ hcl i] at hu
                  by_cases hcase : sLen * inf.size ≤ i ∧ i < sLen * inf.size + news.length
                  · rw [if_pos hcase] at hu
                    have hin : i - sLen * inf.size < news.length := by omega
                    rw [List.getElem?_eq_getElem hin] at hu
                    injection hu with hu
                    exact .inr ⟨hcase.1, hlt', by rw [List.getElem?_eq_getElem hin, hu]⟩
                  · rw [if_neg hcase] at hu
                    have hi2 : i < sLen * inf.size := by omega
                    refine .inl ⟨hi2, ?_⟩
                    have hbl2 : Nat.ble (Nat.succ i) r.n = true := Nat.ble_eq_true_of_le (by omega)
                    unfold Row.get
                    simp only [hbl2]
                    rw [hre]
                    exact hu
                obtain ⟨ob, ho1, ho2⟩ := hR.blk b _ c (getRow_some hr) hs
                cases ho2 with
                | row hn1 hc1 hf1 hx1 =>
                rename_i cs fz
                rw [hre, hse] at hn1
                by_cases hin : sLen + n ≤ c'
                · -- there is room: the same block under a new name
                  have hc2 : c' = sCap + σ.sl b := by omega
                  have hroom : 0 + sLen * inf.size + news'.length ≤ cs.size := by
                    rw [← hv.1, hl]
                    have h5 : (sLen + n) * inf.size ≤ (sCap + σ.sl b) * inf.size := Nat.mul_le_mul_right _ (by omega)
                    have h6 : (sCap + σ.sl b) * inf.size = sCap * inf.size + σ.sl b * inf.size := Nat.add_mul _ _ _
                    omega
                  obtain ⟨w', hw1, hw2, hw3, hwq⟩ := run_store_raw (P := P) (c := c) (o := sLen * inf.size) news' 0 cs w ho1 (by omega) (fun u hu => by
                    obtain ⟨i, hi1⟩ := List.mem_iff_getElem?.1 hu
                    have hlt1 : i < news.length := by rw [hv.1]; exact (List.getElem?_eq_some_iff.1 hi1).1
                    exact (hv.2 i _ u (List.getElem?_eq_getElem hlt1) hi1).oneCell (List.all_eq_true.1 hone _ (List.getElem_mem hlt1))) (unfz hf1)
                  have hrun := run_append_fits' (ty := ty) (base := some ⟨c, 0, none⟩) (sLen := sLen) (sCap := c') (new := news') ht hi htx hd hn (hf w rfl) hin (w' := w') (by simp only [add_none, Nat.zero_add]; exact hw1)
                  have hle : Le σ (ext σ h.next c (c' - (sLen + n))) := Ext.le hR Ext.ext
                  have hnew := hR.rename (k := c' - (sLen + n)) hG hGn (getRow_some hr) hs (o' := .row ⟨cells, (sLen + n) * inf.size, e, false⟩) (ob' := .cells (splice cs.toList (sLen * inf.size + 0) news').toArray r.elem fz) (by
                    rw [hre]
                    refine .row (r := ⟨cells, (sLen + n) * inf.size, e, false⟩) ?_ (fun i u hu => ?_) (by simpa [splice_length] using hf1) (fun hh => by cases hh)
                    · simp only [List.size_toArray, splice_length, Array.length_toList, hse]
                      have h5 : (sLen + n) * inf.size + (c' - (sLen + n)) * inf.size = c' * inf.size := by rw [← Nat.add_mul]; congr 1; omega
                      have h6 : (sCap + σ.sl b) * inf.size = sCap * inf.size + σ.sl b * inf.size := Nat.add_mul _ _ _
                      rw [h5, hc2]; omega
                    · rcases hrow i u hu with ⟨h1, h2⟩ | ⟨h1, h2, h3⟩
                      · obtain ⟨u', h4, h5⟩ := hc1 i u h2
                        refine ⟨u', ?_, h5.mono hle⟩
                        rw [List.getElem?_toArray, splice_get _ _ _ _ (by simpa using hroom), if_neg (by omega)]
                        simpa using h4
                      · obtain ⟨u', h4, h5⟩ := hv.get h3
                        refine ⟨u', ?_, h5.mono hle⟩
                        have hl' := hv.1
                        rw [List.getElem?_toArray, splice_get _ _ _ _ (by simpa using hroom), if_pos (by omega)]
                        simpa using h4) hw2 hw3 hwq
                  refine ⟨ext σ h.next c (c' - (sLen + n)), _, w', hrun, Ext.ext, .slice (ext_self _ _ _ _) (.inr (by rw [ext_sl]; omega)), ?_, by simp⟩
                  show HF E P G W0 _ blks2.get (h.next + 1) w'
                  rw [put_upd hb2, put_upd hb1]; exact hnew
                · -- a new block
                  unfold zmax at hm
                  obtain ⟨olds', h1, h2⟩ := reads_sound hR hr hs ho
                  have hfit : (sLen + n + (sLen + n) / 4 + 192) * inf.bytes ≤ 281474976710656 := by
                    have : (sLen + n + (sLen + n) / 4 + 192) * inf.bytes ≤ 2000000 * 10000 := Nat.mul_le_mul (by omega) hb
                    omega
                  have hold : (Builtin.firstCells inf.size sLen (.slice (some ⟨c, 0, none⟩) sLen c')).run P w.drew = .ok olds'.toArray w.drew :=
                    run_firstCells_some w.drew inf.size sLen _ _ _ olds' (by rw [← h1.1, reads_length ho]) (fun j u hu => by rw [add_none]; exact h2 j u hu)
                  have hrun := run_append_grows' (w := w) (base := some ⟨c, 0, none⟩) (sLen := sLen) (sCap := c') (ty := ty) (old := olds') (new := news') ht hi hz htx hd hn (hf w.drew rfl) hold (by omega) hfit (by omega)
                  have hge := grownCap_ge w (sLen + n) c' e
                  have hle : Le σ (ext σ h.next w.heap.size (grownCap w (sLen + n) c' e - (sLen + n))) := Ext.le hR Ext.ext
                  have hol : olds.length = sLen * inf.size := reads_length ho
                  have hnew := ((hR.drop b).of_heap (w' := w.drew) rfl).alloc (k := grownCap w (sLen + n) c' e - (sLen + n)) (o := .row ⟨cells, (sLen + n) * inf.size, e, false⟩)
                    (ob := .cells (olds'.toArray ++ news'.toArray ++ Builtin.zeroCells z.cells (grownCap w (sLen + n) c' e - (sLen + n))) e) (by
                    refine .row (r := ⟨cells, (sLen + n) * inf.size, e, false⟩) ?_ (fun i u hu => ?_) (.inl rfl) (fun hh => by cases hh)
                    · have := h1.1
                      have := hv.1
                      simp only [hse, Array.size_append, List.size_toArray, Builtin.zeroCells, Array.size_map, Array.size_range, hzs]
                      omega
                    · rcases hrow i u hu with ⟨h3, h4⟩ | ⟨h3, h4, h5⟩
                      · have h6 := reads_get ho i h3
                        rw [Nat.zero_add, h4] at h6
                        obtain ⟨u', h7, h8⟩ := h1.get h6
                        refine ⟨u', ?_, h8.mono hle⟩
                        have hlt7 := (List.getElem?_eq_some_iff.1 h7).1
                        rw [Array.append_assoc, Array.getElem?_append_left (by simpa using hlt7)]
                        simpa using h7
                      · obtain ⟨u', h7, h8⟩ := hv.get h5
                        refine ⟨u', ?_, h8.mono hle⟩
                        have hlt7 := (List.getElem?_eq_some_iff.1 h7).1
                        have := h1.1
                        rw [Array.append_assoc, Array.getElem?_append_right (by simp; omega), Array.getElem?_append_left (by simp; omega)]
                        have e9 : i - olds'.toArray.size = i - sLen * inf.size := by simp; omega
                        rw [e9]; simpa using h7) hGn (w' := w.drew.alloc (.cells (olds'.toArray ++ news'.toArray ++ Builtin.zeroCells z.cells (grownCap w (sLen + n) c' e - (sLen + n))) e)) rfl
                  refine ⟨ext σ h.next w.heap.size (grownCap w (sLen + n) c' e - (sLen + n)), _, _, hrun, Ext.ext, .slice (ext_self _ _ _ _) (.inr (by rw [ext_sl]; omega)), ?_, by simp⟩
                  show HF E P G W0 _ blks2.get (h.next + 1) _
                  rw [put_upd hb2, put_upd hb1]; exact hnew
theorem run_aapFresh (ht : pund P t = some (.slice e)) (hi : pinfo P e = some inf) (htx : pund P tx = some d) (hd : isIntD d = false)
    (hR : HR E P G W0 σ h w) (hv : VL E σ news news')
    (hn : ∀ w₁ : World, (Builtin.lenOf x').run P w₁ = .ok n w₁) (hf : ∀ w₁ : World, w₁.heap = w.heap → (Builtin.firstCells inf.size n x').run P w₁ = .ok news'.toArray w₁)
    {b c o sLen sCap c' : Nat} {r : Row} {z : Value} (hz : inf.zero = some z) (hzs : z.cells.size = inf.size) (hl : news.length = n * inf.size) (hm : sLen + n ≤ zmax) (hb : inf.bytes ≤ 10000) {v : Value} {h' : AH} (hr : getRow h b = some r) (hs : σ b = some c) (hx : r.exact = true) (hc : c' = sCap ∨ c' = sCap + σ.sl b) (e1 : aapFresh P G h e inf.size n news r o sLen = some (v, h')) (hlt : sCap < sLen + n) :
    ∃ σ' v' w', (Builtin.append_ #[t, tx] ty #[.slice (some ⟨c, o, none⟩) sLen c', x']).run P w = .ok v' w' ∧ Ext h.next σ σ' ∧ VR E σ' v v' ∧ HR E P G W0 σ' h' w' ∧ h.next ≤ h'.next := by
  have hsl : σ.sl b = 0 := by
    obtain ⟨ob, ho1, ho2⟩ := hR.blk b _ c (getRow_some hr) hs
    cases ho2 with
    | row hn1 hc1 hf1 hx1 => exact hx1 hx
  have hcc : c' = sCap := by omega
  subst hcc
  unfold aapFresh at e1
  split at e1
  · cases e1
  · rename_i olds ho
    split at e1
    · rename_i a h'' hnew
      injection e1 with e1; injection e1 with e1 e2; subst e1 e2
      unfold zmax at hm
      obtain ⟨olds', h1, h2⟩ := reads_sound hR hr hs ho
      have hfit : (sLen + n + (sLen + n) / 4 + 192) * inf.bytes ≤ 281474976710656 := by
        have : (sLen + n + (sLen + n) / 4 + 192) * inf.bytes ≤ 2000000 * 10000 := Nat.mul_le_mul (by omega) hb
        omega
      have hold : (Builtin.firstCells inf.size sLen (.slice (some ⟨c, o, none⟩) sLen c')).run P w.drew = .ok olds'.toArray w.drew :=
        run_firstCells_some w.drew inf.size sLen _ _ _ olds' (by rw [← h1.1, reads_length ho]) (fun j u hu => by rw [add_none]; exact h2 j u hu)
      have hrun := run_append_grows' (w := w) (base := some ⟨c, o, none⟩) (sLen := sLen) (sCap := c') (ty := ty) (old := olds') (new := news') ht hi hz htx hd hn (hf w.drew rfl) hold (by omega) hfit (by omega)
      have hge := grownCap_ge w (sLen + n) c' e
      have hse : sizeOf? P e = inf.size := by simp [sizeOf?, hi]
      have hol : olds.length = sLen * inf.size := reads_length ho
      have hmul : (sLen + n) * inf.size = sLen * inf.size + n * inf.size := Nat.add_mul _ _ _
      obtain ⟨e4, e5, e6⟩ := run_newRow? (hR.of_heap (w' := w.drew) rfl) hnew (h1.append hv) (olds'.toArray ++ news'.toArray ++ Builtin.zeroCells z.cells (grownCap w (sLen + n) c' e - (sLen + n))) (.inr ⟨Builtin.zeroCells z.cells (grownCap w (sLen + n) c' e - (sLen + n)), by simp⟩) (k := grownCap w (sLen + n) c' e - (sLen + n)) (by
        have := h1.1
        have := hv.1
        simp only [hse, Array.size_append, List.size_toArray, Builtin.zeroCells, Array.size_map, Array.size_range, hzs, List.length_append]
        omega) (fun hh => by cases hh)
      injection e4 with e4; injection e4 with e4; subst e4
      exact ⟨ext σ h.next w.heap.size (grownCap w (sLen + n) c' e - (sLen + n)), _, _, hrun, Ext.ext, .slice (ext_self _ _ _ _) (.inr (by rw [ext_sl]; omega)), e6, by omega⟩
    · cases e1

theorem run_aapOld (ht : pund P t = some (.slice e)) (hi : pinfo P e = some inf) (htx : pund P tx = some d) (hd : isIntD d = false)
    (hR : HR E P G W0 σ h w) (hv : VL E σ news news')
    (hn : ∀ w₁ : World, (Builtin.lenOf x').run P w₁ = .ok n w₁) (hf : ∀ w₁ : World, w₁.heap = w.heap → (Builtin.firstCells inf.size n x').run P w₁ = .ok news'.toArray w₁)
    {b c o sLen sCap c' : Nat} {z : Value} (hz : inf.zero = some z) (hzs : z.cells.size = inf.size) (hl : news.length = n * inf.size) (hm : sLen + n ≤ zmax) (hb : inf.bytes ≤ 10000) {v : Value} {h' : AH} (hs : σ b = some c) (hc : c' = sCap ∨ c' = sCap + σ.sl b) (e1 : aapOld P G h e inf.size n news b o sLen sCap = some (v, h')) (hlt : sCap < sLen + n) :
    ∃ σ' v' w', (Builtin.append_ #[t, tx] ty #[.slice (some ⟨c, o, none⟩) sLen c', x']).run P w = .ok v' w' ∧ Ext h.next σ σ' ∧ VR E σ' v v' ∧ HR E P G W0 σ' h' w' ∧ h.next ≤ h'.next := by
  unfold aapOld at e1
  split at e1
  · cases e1
  · rename_i r hr
    split at e1
    · rename_i hx
      exact run_aapFresh ht hi htx hd hR hv hn hf hz hzs hl hm hb hr hs hx hc e1 hlt
    · split at e1
      · exact run_aapGrow ht hi htx hd hR hv hn hf hz hzs hl hm hb hs hc e1 hlt
      · cases e1
end

end
end Go.Ev
