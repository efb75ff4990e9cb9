/- Texts on getopt.Parse, together. -/
import Derived.Test.YtfchidckklhmpaaGreatDoorHA
import Derived.RegionTactic
import Derived.ChangeAlike
import Derived.Deep.RegionWith
import Derived.Shelf.Strings.Search3
import Derived.Lib.Hide
import Derived.Outline
/- getopt.parse: a text is a spec just where its bytes scan as one; its letters, those with an argument, and whether a plus stands ahead. -/
namespace Go.Proofs.YtfchidckklhmpaaGreatDoor.G
open Go.RowKit Go.Proofs.YtfchidckklhmpaaGreatDoorW.PrintWords
set_option linter.unusedVariables false
set_option linter.unusedSimpArgs false

/-- what holds of memory at a round's head -/
structure PMem (w wr : World) (S : ByteArray) (fi : Bool) (pos : Nat) (lb tb : ByteArray) : Prop where
  res : wr.heap[w.heap.size]? = some (.cells #[.bool false, .string ⟨#[]⟩, .string ⟨#[]⟩] 238 (0, 0))
  sp : wr.heap[w.heap.size + 1]? = some (.cells #[.bool fi, .string lb, .string tb] 238 (0, 0))
  it : wr.heap[w.heap.size + 2]? = some (.stringIter S pos)
  bel : Below w.heap.size w wr

section
variable {w wr w1 : World} {S : ByteArray} {fi : Bool} {pos : Nat} {lb tb : ByteArray}
theorem PMem.next (h : PMem w wr S fi pos lb tb) (pos' : Nat) : PMem w (wr.iterAt (w.heap.size + 2) S pos') S fi pos' lb tb :=
  ⟨by rw [Lib.iterAt_other _ _ _ _ _ (by omega)]; exact h.res, by rw [Lib.iterAt_other _ _ _ _ _ (by omega)]; exact h.sp, Lib.iterAt_heap wr (w.heap.size + 2) S pos pos' h.it, Lib.below_iterAt h.bel (k := w.heap.size + 2) (by omega) S pos'⟩
theorem PMem.below (h : PMem w wr S fi pos lb tb) (hb : Below wr.heap.size wr w1) : PMem w w1 S fi pos lb tb :=
  ⟨blk_below h.res hb, blk_below h.sp hb, (hb.block _ (blk_lt h.it)).trans h.it, below_then h.bel h.bel.size hb⟩
theorem PMem.drew (h : PMem w wr S fi pos lb tb) : PMem w wr.drew S fi pos lb tb := ⟨h.res, h.sp, h.it, h.bel.drew⟩
theorem PMem.drewN (h : PMem w wr S fi pos lb tb) (n : Nat) : PMem w (wr.drewN n) S fi pos lb tb := ⟨h.res, h.sp, h.it, pw_below_drewN h.bel n⟩
theorem PMem.setT (h : PMem w wr S fi pos lb tb) (t : ByteArray) : PMem w (wr.setCell ⟨w.heap.size + 1, 2, none⟩ (.string t)) S fi pos lb t :=
  ⟨blk_far h.res (by simp) _, blk_put h.sp 2 _ rfl, by rw [Below.heap_setCell _ _ _ _ (by simp)]; exact h.it, h.bel.setCell (p := ⟨w.heap.size + 1, 2, none⟩) (by simp) _⟩
theorem PMem.setL (h : PMem w wr S fi pos lb tb) (l : ByteArray) : PMem w (wr.setCell ⟨w.heap.size + 1, 1, none⟩ (.string l)) S fi pos l tb :=
  ⟨blk_far h.res (by simp) _, blk_put h.sp 1 _ rfl, by rw [Below.heap_setCell _ _ _ _ (by simp)]; exact h.it, h.bel.setCell (p := ⟨w.heap.size + 1, 1, none⟩) (by simp) _⟩
end

theorem PMem.failed {w wr : World} {S : ByteArray} {fi : Bool} {pos : Nat} {lb tb : ByteArray} (h : PMem w wr S fi pos lb tb) :
    (((wr.setCell ⟨w.heap.size, 0, none⟩ (.bool false)).setCell ⟨w.heap.size, 1, none⟩ (.string ⟨#[]⟩)).setCell ⟨w.heap.size, 2, none⟩ (.string ⟨#[]⟩)).heap[w.heap.size]? = some (.cells #[.bool false, .string ⟨#[]⟩, .string ⟨#[]⟩] 238 (0, 0)) ∧
    Below w.heap.size w (((wr.setCell ⟨w.heap.size, 0, none⟩ (.bool false)).setCell ⟨w.heap.size, 1, none⟩ (.string ⟨#[]⟩)).setCell ⟨w.heap.size, 2, none⟩ (.string ⟨#[]⟩)) :=
  ⟨blk_put (blk_put (blk_put h.res 0 _ rfl) 1 _ rfl) 2 _ rfl, ((h.bel.setCell (p := ⟨w.heap.size, 0, none⟩) (Nat.le_refl _) _).setCell (p := ⟨w.heap.size, 1, none⟩) (Nat.le_refl _) _).setCell (p := ⟨w.heap.size, 2, none⟩) (Nat.le_refl _) _⟩

theorem PMem.wrote {w wr : World} {S : ByteArray} {fi : Bool} {pos : Nat} {lb tb : ByteArray} (h : PMem w wr S fi pos lb tb) :
    (((wr.setCell ⟨w.heap.size, 0, none⟩ (.bool fi)).setCell ⟨w.heap.size, 1, none⟩ (.string lb)).setCell ⟨w.heap.size, 2, none⟩ (.string tb)).heap[w.heap.size]? = some (.cells #[.bool fi, .string lb, .string tb] 238 (0, 0)) ∧
    Below w.heap.size w (((wr.setCell ⟨w.heap.size, 0, none⟩ (.bool fi)).setCell ⟨w.heap.size, 1, none⟩ (.string lb)).setCell ⟨w.heap.size, 2, none⟩ (.string tb)) :=
  ⟨blk_put (blk_put (blk_put h.res 0 _ rfl) 1 _ rfl) 2 _ rfl, ((h.bel.setCell (p := ⟨w.heap.size, 0, none⟩) (Nat.le_refl _) _).setCell (p := ⟨w.heap.size, 1, none⟩) (Nat.le_refl _) _).setCell (p := ⟨w.heap.size, 2, none⟩) (Nat.le_refl _) _⟩

theorem PMem.start (w : World) (S : ByteArray) (fi : Bool) (nd nd2 : Nat) :
    PMem w ((((((w.alloc (.cells #[.bool false, .string { data := #[] }, .string { data := #[] }] 238)).alloc (.cells #[.bool false, .string { data := #[] }, .string { data := #[] }] 238)).drewN nd).setCell { block := w.heap.size + 1, off := 0 } (.bool fi)).drewN nd2).iter S 0) S fi 0 (mkB []) (mkB []) := by
  have h1 := blk_drewN (blk_alloc (blk_new w (.cells #[.bool false, .string { data := #[] }, .string { data := #[] }] 238)) (.cells #[.bool false, .string { data := #[] }, .string { data := #[] }] 238)) nd
  have h2 := blk_drewN (blk_new (w.alloc (.cells #[.bool false, .string { data := #[] }, .string { data := #[] }] 238)) (.cells #[.bool false, .string { data := #[] }, .string { data := #[] }] 238)) nd
  rw [World.size_alloc] at h2
  have hb := pw_below_drewN (((Below.refl w.heap.size w).alloc (Nat.le_refl _) (.cells #[.bool false, .string { data := #[] }, .string { data := #[] }] 238)).alloc (by simp) (.cells #[.bool false, .string { data := #[] }, .string { data := #[] }] 238)) nd
  have hz : (((w.alloc (.cells #[.bool false, .string { data := #[] }, .string { data := #[] }] 238)).alloc (.cells #[.bool false, .string { data := #[] }, .string { data := #[] }] 238)).drewN nd).heap.size = w.heap.size + 2 := by
    show ((w.alloc _).alloc _).heap.size = _
    rw [World.size_alloc, World.size_alloc]
  generalize ((w.alloc (.cells #[.bool false, .string { data := #[] }, .string { data := #[] }] 238)).alloc (.cells #[.bool false, .string { data := #[] }, .string { data := #[] }] 238)).drewN nd = X at h1 h2 hb hz ⊢
  have h3 := blk_drewN (blk_far h1 (p := { block := w.heap.size + 1, off := 0 }) (by simp) (.bool fi)) nd2
  have h4 := blk_drewN (blk_put h2 0 (.bool fi) rfl) nd2
  have hb2 := pw_below_drewN (hb.setCell (p := ⟨w.heap.size + 1, 0, none⟩) (by simp) (.bool fi)) nd2
  have hz2 : ((X.setCell { block := w.heap.size + 1, off := 0 } (.bool fi)).drewN nd2).heap.size = w.heap.size + 2 := (World.size_setCell ..).trans hz
  generalize (X.setCell { block := w.heap.size + 1, off := 0 } (.bool fi)).drewN nd2 = Y at h3 h4 hb2 hz2 ⊢
  refine ⟨blk_alloc h3 _, blk_alloc h4 _, ?_, hb2.alloc (by omega) _⟩
  have := World.iter_heap Y S 0
  rw [hz2] at this
  exact this

def SpecPost (o : Option (Bool × List UInt8 × List UInt8)) (e : Ending) : Prop :=
  match o with
  | none => e = .returned (.tuple #[.agg #[.bool false, .string (mkB []), .string (mkB [])], .bool false])
  | some (fi, ls, ts) => e = .returned (.tuple #[.agg #[.bool fi, .string (mkB ls), .string (mkB ts)], .bool true])

set_option maxHeartbeats 4000000 in
set_option maxRecDepth 100000 in
theorem parse_calls (s : ByteArray) (w : World) (hs : s.size ≤ 140737488355328) :
    Calls Tryz.prog 177 #[.string s] w fun e w' => SpecPost (specOf s) e ∧ Below w.heap.size w w' := by
  obtain ⟨L, hL⟩ : ∃ L, L = strip s.data.toList := ⟨_, rfl⟩
  obtain ⟨fi, hfi⟩ : ∃ fi, fi = plus s.data.toList := ⟨_, rfl⟩
  have hp0 := hasPrefix_plus s
  have ht0 := trimPrefix_plus s
  rw [← hfi] at hp0
  rw [← hL] at ht0
  have hspec : Hid (specOf s = (scan L [] [] false).map fun p => (fi, p.1, p.2)) := by subst hL; subst hfi; rfl
  have hLs : L.length ≤ 140737488355328 := by
    have h1 : L.length ≤ s.data.toList.length := by rw [hL]; exact strip_le _
    have h2 := data_length s
    omega
  have hp := Lib.hid hp0
  have ht := Lib.hid ht0
  clear hp0 ht0 hL hfi
  have hu53 := Tryz.underlying238
  go_enter Tryz.func177, Tryz.ntmps177
  go_wp2_with (first
    | (go_at_call 192; (with_reducible refine (strings_HasPrefix.calls s ⟨#[43]⟩ fi _ hp.out).mono ?_); rintro e w' ⟨rfl, ⟨nd, rfl⟩⟩)
    | (go_at_call 296; (with_reducible refine (strings_TrimPrefix.calls s ⟨#[43]⟩ (mkB L) _ ht.out).mono ?_); rintro e w' ⟨rfl, ⟨nd2, rfl⟩⟩))
  go_loopw [5] (fun v wr => ∃ (pos : Nat) (ls ts : List UInt8) (last : Bool), v = .bool last ∧ PMem w wr (mkB L) fi pos (mkB ls) (mkB ts) ∧ PFact L pos ls ts last) (fun _ wr => (mkB L).size - wr.iterPos (w.heap.size + 2))
  case atStart => exact ⟨0, [], [], false, rfl, PMem.start w (mkB L) fi nd nd2, PFact.start L⟩
  case round =>
    obtain ⟨pos, ls, ts, last, rfl, HM, HF⟩ := hrel
    obtain ⟨S, hS⟩ : ∃ S, S = mkB L := ⟨_, rfl⟩
    have hSz : S.size = L.length := by rw [hS]; exact mkB_size L
    rw [← hS] at HM ⊢
    have HS := Lib.hid hS
    have HZ := Lib.hid hSz
    clear hS hSz
    obtain ⟨lb, hlb⟩ : ∃ lb, lb = mkB ls := ⟨_, rfl⟩
    obtain ⟨tb, htb⟩ : ∃ tb, tb = mkB ts := ⟨_, rfl⟩
    rw [← hlb, ← htb] at HM
    have hlz : lb.size = ls.length := by rw [hlb]; exact mkB_size ls
    have htz : tb.size = ts.length := by rw [htb]; exact mkB_size ts
    have hlzi : lb.size ≤ L.length := by have := HF.nl; have := HF.le; omega
    have htzi : tb.size ≤ L.length := by have := HF.nt; have := HF.le; omega
    have HLZ := Lib.hid hlz
    have HTZ := Lib.hid htz
    have HLB := Lib.hid hlb
    have HTB := Lib.hid htb
    clear hlz htz hlb htb
    have hit := HM.it
    by_cases hp2 : pos < S.size
    · have hpl : pos < L.length := by have := HZ.out; omega
      have hcc : S[pos]'hp2 = L[pos]'hpl := by simp only [HS.out]; exact mkB_get L pos _
      have hd : L.drop pos = L[pos]'hpl :: L.drop (pos + 1) := List.drop_eq_getElem_cons hpl
      obtain ⟨b, hb⟩ : ∃ b, b = L[pos]'hpl := ⟨_, rfl⟩
      rw [← hb] at hcc hd
      have HD := Lib.hid hd
      clear hd hb
      by_cases hc8 : (S[pos]'hp2).toNat < 128
      · have hnx : ∀ ty, (Instr.next (.pointer (some ⟨w.heap.size + 2, 0, none⟩)) true ty).run Tryz.prog wr = _ := fun ty => Lib.run_next_ascii_at wr (w.heap.size + 2) S pos ty hit hp2 hc8
        rw [hcc] at hc8
        simp only [hcc] at hnx
        obtain ⟨c, hc⟩ : ∃ c : Nat, b.toNat = c := ⟨_, rfl⟩
        rw [hc] at hnx hc8
        have HC := Lib.hid hc
        clear hc hcc
        have HM1 := HM.next (pos + 1)
        have HIT := Lib.hid hit
        clear hit
        obtain ⟨W1, hW1⟩ : ∃ W1, W1 = wr.iterAt (w.heap.size + 2) S (pos + 1) := ⟨_, rfl⟩
        rw [← hW1] at HM1
        simp only [← hW1] at hnx
        clear hW1
        have cl := blk_cell HM1.sp 1
        have ct := blk_cell HM1.sp 2
        have cf := blk_cell HM1.sp 0
        have fl := blk_frozen HM1.sp 1
        have ft := blk_frozen HM1.sp 2
        simp at cl ct cf
        by_cases hcolon : c = 58 ∧ last = true
        · obtain ⟨rfl, rfl⟩ := hcolon
          have hl1 : 1 ≤ lb.size := by have := HF.ne rfl; have := HLZ.out; omega
          go_wp2
          go_region
          go_wp2
          go_roundw
          case rel =>
            have HF2 := HF.colon hpl HD.out HC.out
            have e : tb ++ lb.extract (lb.size - 1) lb.size = mkB (ts ++ ls.drop (ls.length - 1)) := by
              rw [HTB.out, HLB.out, mkB_drop, mkB_append, mkB_size]
            refine ⟨pos + 1, ls, _, false, rfl, ?_, HF2⟩
            rw [← HLB.out, ← e]
            exact (HM1.setT _).drew
          case measure =>
            have h2 := (HM1.setT (tb ++ lb.extract (lb.size - 1) lb.size)).drew.it
            simp only [World.iterPos, h2, HIT.out]
            omega
        · have hcol : (((c : Int) == 58) = false) ∨ (c = 58 ∧ last = false) := by
            by_cases h : c = 58
            · right; exact ⟨h, by cases last; · rfl
                                  · exact absurd ⟨h, rfl⟩ hcolon⟩
            · left; rw [beq_eq_false_iff_ne]; omega
          by_cases hlet : isLet b = true
          · have hrange : (97 ≤ c ∧ c ≤ 122) ∨ (65 ≤ c ∧ c ≤ 90) ∨ (48 ≤ c ∧ c ≤ 57) := by
              have := hlet
              simp [isLet, HC.out] at this
              omega
            have HLET := Lib.hid hlet
            have HNC := Lib.hid hcolon
            clear hlet hcolon
            have hcol2 : ((c : Int) == 58) = false := by rw [beq_eq_false_iff_ne]; omega
            clear hcol
            have hasc := Lib.hid HF.asc
            have hlen : ls.length ≤ 140737488355328 := by have := HF.nl; have := HF.le; omega
            have hcon : hasR ls (c : Int) = ls.contains b := by
              unfold hasR
              rw [Bool.eq_iff_iff, List.any_eq_true, List.contains_iff_mem]
              constructor
              · rintro ⟨x, hx, he⟩
                have : x = b := UInt8.toNat_inj.1 (by rw [HC.out]; have := beq_iff_eq.1 he; omega)
                rw [← this]; exact hx
              · intro hx
                exact ⟨b, hx, by rw [HC.out]; simp⟩
            have hcall : ∀ W : World, Calls Tryz.prog 297 #[.string lb, .int .i32 (c : Int)] W fun e w' => e = .returned (.bool (hasR ls (c : Int))) ∧ Below W.heap.size W w' := by
              rw [HLB.out]
              exact fun W => hasRune_calls ls (c : Int) W hasc.out hlen
            rw [hcon] at hcall
            clear hcon hlen
            by_cases hin : ls.contains b = true
            · rw [hin] at hcall
              have hfail : scan L [] [] false = none := HF.fail HD.out (by rw [HC.out]; exact HNC.out) (fun e => by rw [hin] at e; exact absurd e.2 (by decide))
              have hpost : specOf s = none := by rw [hspec, hfail]; rfl
              have HPO := Lib.hid hpost
              have HCALL := Lib.hid hcall
              clear hfail hpost hin hcall
              rcases hrange with hr | hr | hr
              all_goals
                obtain ⟨hr, hr2⟩ := hr
                go_wp2_with fail
                refine (HCALL.out _).mono ?_
                rintro e W2 ⟨rfl, hbel⟩
                have HM2 := HM1.below hbel
                have cr0 := blk_cell HM2.res 0
                have cr1 := blk_cell HM2.res 1
                have cr2 := blk_cell HM2.res 2
                have fr0 := blk_frozen HM2.res 0
                have fr1 := blk_frozen HM2.res 1
                have fr2 := blk_frozen HM2.res 2
                simp at cr0 cr1 cr2
                clear hbel
                go_wp2
                exact bodyPost_ret (results_list (rs := [.cell 2 238, .tmp 3]) rfl (by simp) (.cell w.heap.size 238 #[.bool false, .string ⟨#[]⟩, .string ⟨#[]⟩] (0, 0) _ rfl HM2.failed.1 Tryz.underlying238 rfl (by kernel_rfl) (.tmp .nil))) rfl ⟨by rw [HPO.out]; rfl, HM2.failed.2⟩
            · have hin2 : ls.contains b = false := by simpa using hin
              rw [hin2] at hcall
              have HF2 := HF.letter hpl HD.out HLET.out hin2
              have HCALL := Lib.hid hcall
              clear hin hin2 hcall
              obtain ⟨eb, heb⟩ : ∃ eb, Utf8.encode (c : Int) = eb := ⟨_, rfl⟩
              have henc := encode_ascii c hc8 b HC.out
              rw [heb] at henc
              have hes : eb.size ≤ 1 := by rw [henc]; exact Nat.le_refl _
              have HEB := Aside0.mk heb
              clear heb
              have HENC := Lib.hid henc
              clear henc
              rcases hrange with hr | hr | hr
              all_goals
                obtain ⟨hr, hr2⟩ := hr
                go_wp2_with fail
                refine (HCALL.out _).mono ?_
                rintro e W2 ⟨rfl, hbel⟩
                have HM2 := HM1.below hbel
                have cl := blk_cell HM2.sp 1
                have fl := blk_frozen HM2.sp 1
                simp at cl
                clear hbel
                have heb := HEB.out
                go_wp2
                go_roundw
                case rel =>
                  refine ⟨pos + 1, ls ++ [b], ts, true, rfl, ?_, HF2⟩
                  have e : lb ++ eb = mkB (ls ++ [b]) := by rw [HLB.out, HENC.out, mkB_append]
                  rw [← HTB.out, ← e]
                  exact HM2.setL _
                case measure =>
                  have h2 := (HM2.setL (lb ++ eb)).it
                  simp only [World.iterPos, h2, HIT.out]
                  omega
          · have hfail : scan L [] [] false = none := HF.fail HD.out (by rw [HC.out]; exact hcolon) (fun e => hlet e.1)
            have hpost : specOf s = none := by rw [hspec, hfail]; rfl
            have hrange : c < 48 ∨ (57 < c ∧ c < 65) ∨ (90 < c ∧ c < 97) ∨ 122 < c := by
              have : isLet b = false := by simpa using hlet
              simp [isLet, HC.out] at this
              omega
            clear hlet
            have HFA := Lib.hid hfail
            have HPO := Lib.hid hpost
            clear hfail hpost hcolon
            have cr0 := blk_cell HM1.res 0
            have cr1 := blk_cell HM1.res 1
            have cr2 := blk_cell HM1.res 2
            have fr0 := blk_frozen HM1.res 0
            have fr1 := blk_frozen HM1.res 1
            have fr2 := blk_frozen HM1.res 2
            simp at cr0 cr1 cr2
            rcases hrange with hr | ⟨hr, hr2⟩ | ⟨hr, hr2⟩ | hr
            · have hcol2 : ((c : Int) == 58) = false := by rw [beq_eq_false_iff_ne]; omega
              clear hcol
              go_wp2
              exact bodyPost_ret (results_list (rs := [.cell 2 238, .tmp 3]) rfl (by simp) (.cell w.heap.size 238 #[.bool false, .string ⟨#[]⟩, .string ⟨#[]⟩] (0, 0) _ rfl HM1.failed.1 Tryz.underlying238 rfl (by kernel_rfl) (.tmp .nil))) rfl ⟨by rw [HPO.out]; rfl, HM1.failed.2⟩
            · rcases hcol with hcol2 | ⟨rfl, rfl⟩
              · go_wp2
                exact bodyPost_ret (results_list (rs := [.cell 2 238, .tmp 3]) rfl (by simp) (.cell w.heap.size 238 #[.bool false, .string ⟨#[]⟩, .string ⟨#[]⟩] (0, 0) _ rfl HM1.failed.1 Tryz.underlying238 rfl (by kernel_rfl) (.tmp .nil))) rfl ⟨by rw [HPO.out]; rfl, HM1.failed.2⟩
              · go_wp2
                exact bodyPost_ret (results_list (rs := [.cell 2 238, .tmp 3]) rfl (by simp) (.cell w.heap.size 238 #[.bool false, .string ⟨#[]⟩, .string ⟨#[]⟩] (0, 0) _ rfl HM1.failed.1 Tryz.underlying238 rfl (by kernel_rfl) (.tmp .nil))) rfl ⟨by rw [HPO.out]; rfl, HM1.failed.2⟩
            · have hcol2 : ((c : Int) == 58) = false := by rw [beq_eq_false_iff_ne]; omega
              clear hcol
              go_wp2
              exact bodyPost_ret (results_list (rs := [.cell 2 238, .tmp 3]) rfl (by simp) (.cell w.heap.size 238 #[.bool false, .string ⟨#[]⟩, .string ⟨#[]⟩] (0, 0) _ rfl HM1.failed.1 Tryz.underlying238 rfl (by kernel_rfl) (.tmp .nil))) rfl ⟨by rw [HPO.out]; rfl, HM1.failed.2⟩
            · have hcol2 : ((c : Int) == 58) = false := by rw [beq_eq_false_iff_ne]; omega
              clear hcol
              go_wp2
              exact bodyPost_ret (results_list (rs := [.cell 2 238, .tmp 3]) rfl (by simp) (.cell w.heap.size 238 #[.bool false, .string ⟨#[]⟩, .string ⟨#[]⟩] (0, 0) _ rfl HM1.failed.1 Tryz.underlying238 rfl (by kernel_rfl) (.tmp .nil))) rfl ⟨by rw [HPO.out]; rfl, HM1.failed.2⟩
      · have hc9 : 128 ≤ (S[pos]'hp2).toNat := by omega
        have hnx : ∀ ty, (Instr.next (.pointer (some ⟨w.heap.size + 2, 0, none⟩)) true ty).run Tryz.prog wr = _ := fun ty => Lib.run_next_any_at wr (w.heap.size + 2) S pos ty hit hp2
        have hdh := (decode_high S pos hp2 hc9).1
        rw [hcc] at hc9
        have hfail : scan L [] [] false = none := HF.fail HD.out (fun e => by have := e.1; omega) (fun e => by have := isLet_low e.1; omega)
        have hpost : specOf s = none := by rw [hspec, hfail]; rfl
        have HPO := Lib.hid hpost
        have HM1 := HM.next (pos + (Utf8.decode S pos).2)
        obtain ⟨W1, hW1⟩ : ∃ W1, W1 = wr.iterAt (w.heap.size + 2) S (pos + (Utf8.decode S pos).2) := ⟨_, rfl⟩
        rw [← hW1] at HM1
        simp only [← hW1] at hnx
        obtain ⟨c, hc⟩ : ∃ c : Nat, (Utf8.decode S pos).1 = c := ⟨_, rfl⟩
        rw [hc] at hdh
        simp only [hc] at hnx
        clear hW1 hc hfail hpost hc8 hc9 hcc hit
        have hcol2 : ((c : Int) == 58) = false := by rw [beq_eq_false_iff_ne]; omega
        have cr0 := blk_cell HM1.res 0
        have cr1 := blk_cell HM1.res 1
        have cr2 := blk_cell HM1.res 2
        have fr0 := blk_frozen HM1.res 0
        have fr1 := blk_frozen HM1.res 1
        have fr2 := blk_frozen HM1.res 2
        simp at cr0 cr1 cr2
        go_wp2
        exact bodyPost_ret (results_list (rs := [.cell 2 238, .tmp 3]) rfl (by simp) (.cell w.heap.size 238 #[.bool false, .string ⟨#[]⟩, .string ⟨#[]⟩] (0, 0) _ rfl HM1.failed.1 Tryz.underlying238 rfl (by kernel_rfl) (.tmp .nil))) rfl ⟨by rw [HPO.out]; rfl, HM1.failed.2⟩
    · have hnx : ∀ ty, (Instr.next (.pointer (some ⟨w.heap.size + 2, 0, none⟩)) true ty).run Tryz.prog wr = _ := fun ty => Lib.run_next_end_at wr (w.heap.size + 2) S pos ty hit hp2
      have hdone : scan L [] [] false = some (ls, ts) := HF.done (by have := HZ.out; omega)
      have hpost : specOf s = some (fi, ls, ts) := by rw [hspec, hdone]; rfl
      have HPO := Lib.hid hpost
      clear hdone hpost
      have cr0 := blk_cell HM.res 0
      have cr1 := blk_cell HM.res 1
      have cr2 := blk_cell HM.res 2
      have fr0 := blk_frozen HM.res 0
      have fr1 := blk_frozen HM.res 1
      have fr2 := blk_frozen HM.res 2
      have cs0 := blk_cell HM.sp 0
      have cs1 := blk_cell HM.sp 1
      have cs2 := blk_cell HM.sp 2
      simp at cr0 cr1 cr2 cs0 cs1 cs2
      go_wp2
      refine bodyPost_ret (results_list (rs := [.cell 2 238, .tmp 3]) rfl (by simp) (.cell w.heap.size 238 #[.bool fi, .string lb, .string tb] (0, 0) _ rfl HM.wrote.1 Tryz.underlying238 rfl (by kernel_rfl) (.tmp .nil))) rfl ⟨?_, HM.wrote.2⟩
      rw [HPO.out, HLB.out, HTB.out]
      rfl

end Go.Proofs.YtfchidckklhmpaaGreatDoor.G

/- strings.Contains at a text of one byte, and at any text where internal/bytealg.MaxLen's variable can be read: out of the library's own contracts, laid at this dump. -/
namespace Go.Proofs
open Go.Shelf
def Tryz.lays144_ren : Go.Shelf.Ren := ⟨fun | 144 => 114 | 143 => 208 | 219 => 319 | 217 => 390 | 225 => 391 | 224 => 392 | 267 => 393 | 266 => 427 | 314 => 428 | n => n, fun | 9 => 9 | 4 => 4 | 3 => 3 | 5 => 5 | 46 => 428 | 146 => 448 | 51 => 447 | n => n, fun | 1 => 0 | n => n⟩
theorem Tryz.lays144 : Go.Proofs.Lays.n144 Tryz.prog Tryz.lays144_ren := {
  mixed := by kernel_rfl
  f143 := Tryz.func208.trans (congrArg some (by kernel_rfl))
  f144 := Tryz.func114.trans (congrArg some (by kernel_rfl))
  f217 := Tryz.func390.trans (congrArg some (by kernel_rfl))
  f219 := Tryz.func319.trans (congrArg some (by kernel_rfl))
  f224 := Tryz.func392.trans (congrArg some (by kernel_rfl))
  f225 := Tryz.func391.trans (congrArg some (by kernel_rfl))
  f266 := Tryz.func427.trans (congrArg some (by kernel_rfl))
  f267 := Tryz.func393.trans (congrArg some (by kernel_rfl))
  f314 := Tryz.func428.trans (congrArg some (by kernel_rfl))
  t3 := Tryz.underlying3
  a3 := Tryz.isAgg3
  z3 := Tryz.sizeOf3
  v3 := Tryz.zeroValue3
  t4 := Tryz.underlying4
  a4 := Tryz.isAgg4
  z4 := Tryz.sizeOf4
  v4 := Tryz.zeroValue4
  t5 := Tryz.underlying5
  a5 := Tryz.isAgg5
  z5 := Tryz.sizeOf5
  v5 := Tryz.zeroValue5
  t9 := Tryz.underlying9
  a9 := Tryz.isAgg9
  z9 := Tryz.sizeOf9
  v9 := Tryz.zeroValue9
  t46 := Tryz.underlying428
  a46 := Tryz.isAgg428
  z46 := Tryz.sizeOf428
  v46 := Tryz.zeroValue428
  t51 := Tryz.underlying447
  a51 := Tryz.isAgg447
  z51 := Tryz.sizeOf447
  v51 := Tryz.zeroValue447
  t146 := Tryz.underlying448
  a146 := Tryz.isAgg448
  z146 := Tryz.sizeOf448
  v146 := Tryz.zeroValue448
  g1 := by kernel_rfl }
open Go.RowKit Go.Lib in
theorem Tryz.strings_Contains_one (s : ByteArray) (c : UInt8) (w : World) :
    Calls Tryz.prog 114 #[.string s, .string ⟨#[c]⟩] w fun e w' => e = .returned (.bool (decide (0 ≤ Lib.indexByte s.data.toList c))) ∧ w' = w := Any.strings_Contains_one Tryz.lays144 s c w
open Go.RowKit Go.Lib in
theorem Tryz.strings_Contains (s sub : ByteArray) (m : Int) (w : World) (hs : s.size < 4294967281) (hm : w.cell? ⟨0, 0, none⟩ = some (.int .i64 m)) :
    Calls Tryz.prog 114 #[.string s, .string sub] w fun e w' => e = .returned (.bool (Lib.contains s.data.toList sub.data.toList)) ∧ w' = w := Any.strings_Contains Tryz.lays144 s sub m w hs hm
end Go.Proofs
namespace Go.Proofs.YtfchidckklhmpaaGreatDoor.G
open Go.RowKit Go.Proofs.YtfchidckklhmpaaGreatDoorW.PrintWords

/-- internal/bytealg.MaxLen can be read -/
structure MaxOk (w : World) : Prop where
  cell : ∃ m, w.cell? ⟨0, 0, none⟩ = some (.int .i64 m)
theorem MaxOk.below {w w1 : World} (h : MaxOk w) (hb : Below w.heap.size w w1) : MaxOk w1 := by
  obtain ⟨m, hm⟩ := h.cell
  exact ⟨m, pw_cell_below hb hm⟩

theorem indexByte_contains (l : List UInt8) (c : UInt8) : decide (0 ≤ Lib.indexByte l c) = l.contains c := by
  induction l with
  | nil => simp [Lib.indexByte]
  | cons b l ih =>
    have hg := Lib.indexByte_ge l c
    rw [List.contains_cons]
    by_cases h : b = c
    · subst h
      simp [Lib.indexByte]
    · have h1 : (b == c) = false := by simpa using h
      have h2 : (c == b) = false := by simpa using fun e => h e.symm
      rw [h2, Bool.false_or, ← ih]
      simp only [Lib.indexByte, h1, Bool.false_eq_true, if_false]
      by_cases hi : Lib.indexByte l c = -1
      · simp [hi]
      · have hi2 : (Lib.indexByte l c == -1) = false := by simpa using hi
        simp only [hi2, Bool.false_eq_true, if_false]
        have a : 0 ≤ Lib.indexByte l c := by omega
        simp [a]
        omega

theorem contains_byte (a : ByteArray) (c : UInt8) (w : World) :
    Calls Tryz.prog 114 #[.string a, .string (mkB [c])] w fun e w' => e = .returned (.bool (a.data.toList.contains c)) ∧ w' = w := by
  rw [← indexByte_contains]
  exact Tryz.strings_Contains_one a c w

theorem contains_any (a b : ByteArray) (w : World) (hM : MaxOk w) (hs : a.size < 4294967281) :
    Calls Tryz.prog 114 #[.string a, .string b] w fun e w' => ∃ r : Bool, e = .returned (.bool r) ∧ w' = w := by
  obtain ⟨m, hm⟩ := hM.cell
  exact (Tryz.strings_Contains a b m w hs hm).mono fun e w' h => ⟨_, h⟩

theorem strings_Contains.calls (a0 : ByteArray) (a1 : ByteArray) (r : Bool) (w : World) (h : strings_Contains.f a0 a1 = some r) :
    Calls Tryz.prog 114 #[.string a0, .string a1] w fun e w' => e = .returned (.bool r) ∧ Drawn0 w w' := by
  unfold strings_Contains.f at h
  split at h
  · rename_i b hb
    have e : a1 = mkB [b] := eq_mkB hb
    subst e
    injection h with h
    subst h
    exact (contains_byte a0 b w).mono fun e w' hh => ⟨hh.1, by rw [hh.2]; exact Drawn0.refl w⟩
  · cases h
end Go.Proofs.YtfchidckklhmpaaGreatDoor.G

/- The state on its way (a struct of six cells in a block of its own): what holds of it, and getopt's method next. -/
namespace Go.Proofs.YtfchidckklhmpaaGreatDoor.G
open Go.RowKit Go.Proofs.YtfchidckklhmpaaGreatDoorW.PrintWords
set_option linter.unusedVariables false
set_option linter.unusedSimpArgs false

/-- the state in block B, in a call that began in w0 -/
structure St (w0 w : World) (B : Nat) (fi : Bool) (lb tb : ByteArray) (A : Option Addr) (n c : Nat) (ov rv : Value) (args : List ByteArray) (os : List S67) (rs : List ByteArray) : Prop where
  blk : w.heap[B]? = some (.cells #[.bool fi, .string lb, .string tb, .slice A n c, ov, rv] 243 (0, 0))
  len : args.length = n
  rd : Kd.C Kd.string w0 A n args
  cap : n ≤ c
  op : Kd.R k67 143 w w0.heap.size (fun _ => True) ov os
  re : Kd.R Kd.string 9 w w0.heap.size (fun _ => True) rv rs
  bel : Below w0.heap.size w0 w
  base : w0.heap.size ≤ B

section
variable {w0 w w1 : World} {B : Nat} {fi : Bool} {lb tb : ByteArray} {A : Option Addr} {n c : Nat} {ov rv : Value} {args : List ByteArray} {os : List S67} {rs : List ByteArray}
theorem St.below (h : St w0 w B fi lb tb A n c ov rv args os rs) (hb : Below w.heap.size w w1) : St w0 w1 B fi lb tb A n c ov rv args os rs :=
  ⟨blk_below h.blk hb, h.len, h.rd, h.cap, Kd.R_below h.op hb, Kd.R_below h.re hb, below_then h.bel h.bel.size hb, h.base⟩
theorem St.drewN (h : St w0 w B fi lb tb A n c ov rv args os rs) (k : Nat) : St w0 (w.drewN k) B fi lb tb A n c ov rv args os rs :=
  h.below (pw_below_drewN (Below.refl _ _) k)
theorem St.setArgs (h : St w0 w B fi lb tb A n c ov rv args os rs) {A' : Option Addr} {n' c' : Nat} {args' : List ByteArray} (hr : Kd.C Kd.string w0 A' n' args') (hl : args'.length = n') (hc : n' ≤ c') :
    St w0 (w.setCell ⟨B, 3, none⟩ (.slice A' n' c')) B fi lb tb A' n' c' ov rv args' os rs :=
  ⟨blk_put h.blk 3 _ rfl, hl, hr, hc, Kd.R_set h.op h.blk (by decide) 3 _, Kd.R_set h.re h.blk (by decide) 3 _, h.bel.setCell (p := ⟨B, 3, none⟩) h.base _, h.base⟩
end

theorem add_zero_ (a : Addr) : a.add 0 = a := by
  cases a
  unfold Addr.add
  split <;> simp_all

theorem next_nil (w0 w : World) (B : Nat) (fi : Bool) (lb tb : ByteArray) (A : Option Addr) (c : Nat) (ov rv : Value) (os : List S67) (rs : List ByteArray) (h : St w0 w B fi lb tb A 0 c ov rv [] os rs) :
    Calls Tryz.prog 178 #[.pointer (some ⟨B, 0, none⟩)] w fun e w' => e = .returned (.tuple #[.string (mkB []), .bool false]) ∧ Drawn0 w w' := by
  have ca := blk_cell h.blk 3
  simp at ca
  clear h
  go_enter Tryz.func178, Tryz.ntmps178
  go_wp2
  go_ret2
  exact ⟨rfl, Drawn0.refl _⟩

set_option maxHeartbeats 1000000 in
theorem next_cons (w0 w : World) (B : Nat) (fi : Bool) (lb tb : ByteArray) (A : Option Addr) (n c : Nat) (ov rv : Value) (x : ByteArray) (xs : List ByteArray) (os : List S67) (rs : List ByteArray) (h : St w0 w B fi lb tb A n c ov rv (x :: xs) os rs) :
    Calls Tryz.prog 178 #[.pointer (some ⟨B, 0, none⟩)] w fun e w' => e = .returned (.tuple #[.string x, .bool true]) ∧ (∃ A' n' c', St w0 w' B fi lb tb A' n' c' ov rv xs os rs) ∧ ∀ k, k ≠ B → w'.heap[k]? = w.heap[k]? := by
  have hl := h.len
  have hn : 0 < n := by rw [← hl]; simp
  obtain ⟨ad, e0, hx⟩ := Kd.at_string h.rd 0 (Int.le_refl _) (by omega)
  have e1 : rdOf ByteArray.empty (x :: xs) 0 = x := rfl
  rw [e1] at hx
  have hx2 := (h.bel.cell (World.block_lt_of_cell? w0 _ hx)).trans hx
  cases e0
  obtain ⟨i0, hi, _, hsz, _⟩ := info_parts info9
  obtain ⟨A', hcut, hA, hC⟩ := print_drop_of (P := Tryz.prog) Value.string (⟨#[]⟩ : ByteArray) 22 9 .i64 Tryz.underlying22 hi hsz (some ad) c (x :: xs) 1 (by omega) (by simp only [List.length_cons]; omega) (by rw [hl]; exact h.cap)
  have hr : Kd.C Kd.string w0 A' xs.length xs := Kd.C_of_reads (h1 := fun _ => rfl) (hA _ (Kd.reads_of_C (by rw [hl]; exact h.rd)))
  simp only [List.drop_one, List.tail_cons, Int.toNat_one] at hcut hC
  rw [hl] at hcut
  have hfin := Aside0.mk (h.setArgs hr rfl hC)
  have ca := blk_cell h.blk 3
  have fa := blk_frozen h.blk 3
  simp at ca
  have hnb : ((n : Int) == 0) = false := by rw [beq_eq_false_iff_ne]; omega
  have HR := Aside0.mk hr
  simp only [Int.toNat_zero] at hx2
  rw [add_zero_] at hx2
  clear h hr hl hA hC hi hsz hx e1
  go_enter Tryz.func178, Tryz.ntmps178
  go_wp2
  go_ret2
  exact ⟨rfl, ⟨_, _, _, hfin.out⟩, fun k hk => Below.heap_setCell _ _ _ _ hk⟩

/-- next at whatever is left -/
theorem next_any (w0 w : World) (B : Nat) (fi : Bool) (lb tb : ByteArray) (A : Option Addr) (n c : Nat) (ov rv : Value) (args : List ByteArray) (os : List S67) (rs : List ByteArray) (h : St w0 w B fi lb tb A n c ov rv args os rs) :
    Calls Tryz.prog 178 #[.pointer (some ⟨B, 0, none⟩)] w fun e w' => ∃ (x : ByteArray) (more : Bool) (xs : List ByteArray) (A' : Option Addr) (n' c' : Nat), e = .returned (.tuple #[.string x, .bool more]) ∧
      args = (if more then x :: xs else []) ∧ (more = false → xs = []) ∧ St w0 w' B fi lb tb A' n' c' ov rv xs os rs ∧ ∀ k, k ≠ B → w'.heap[k]? = w.heap[k]? := by
  cases args with
  | nil =>
    obtain rfl : n = 0 := by rw [← h.len]; rfl
    refine (next_nil w0 w B fi lb tb A c ov rv os rs h).mono ?_
    rintro e w' ⟨rfl, ⟨nd, rfl⟩⟩
    exact ⟨_, false, [], A, 0, c, rfl, rfl, fun _ => rfl, h.drewN nd, fun _ _ => rfl⟩
  | cons x xs =>
    refine (next_cons w0 w B fi lb tb A n c ov rv x xs os rs h).mono ?_
    rintro e w' ⟨rfl, ⟨A', n', c', hs⟩, hf⟩
    exact ⟨x, true, xs, A', n', c', rfl, rfl, fun h => (by cases h), hs, hf⟩

end Go.Proofs.YtfchidckklhmpaaGreatDoor.G

/- getopt's method cluster: the options of one argument, byte by byte. -/
namespace Go.Proofs.YtfchidckklhmpaaGreatDoor.G
open Go.RowKit Go.Proofs.YtfchidckklhmpaaGreatDoorW.PrintWords
set_option linter.unusedVariables false
set_option linter.unusedSimpArgs false

section
variable {w0 w w1 : World} {B : Nat} {fi : Bool} {lb tb : ByteArray} {A : Option Addr} {n c : Nat} {ov rv v1 : Value} {args : List ByteArray} {os : List S67} {rs : List ByteArray}
theorem St.pushed (h : St w0 w B fi lb tb A n c ov rv args os rs) {p : S67} (ho : Kd.R k67 143 w1 w0.heap.size (fun _ => True) v1 (os ++ [p])) (hb : Below w0.heap.size w0 w1) (hg : w.grownBy w1 ov.ownBlock) :
    St w0 (w1.setCell ⟨B, 4, none⟩ v1) B fi lb tb A n c v1 rv args (os ++ [p]) rs := by
  have hk := blk_grown h.blk hg (Kd.R_ne h.op h.blk (by decide))
  exact ⟨blk_put hk 4 _ rfl, h.len, h.rd, h.cap, Kd.R_set ho hk (by decide) 4 _, Kd.R_set (Kd.R_over' h.re (Kd.R_typed h.op) (by decide) hg) hk (by decide) 4 _, hb.setCell (p := ⟨B, 4, none⟩) h.base _, h.base⟩
/-- another block of another type stays -/
theorem St.pushed_far (h : St w0 w B fi lb tb A n c ov rv args os rs) (hg : w.grownBy w1 ov.ownBlock) {R : Nat} {cs : Array Value} (hr : w.heap[R]? = some (.cells cs 137 (0, 0))) :
    (w1.setCell ⟨B, 4, none⟩ v1).heap[R]? = some (.cells cs 137 (0, 0)) :=
  blk_far (blk_grown hr hg (Kd.R_ne h.op hr (by decide))) (p := ⟨B, 4, none⟩) (blk_ne hr h.blk (by decide)) _
/-- a store into another block of type 25, made in this call -/
theorem St.elsewhere (h : St w0 w B fi lb tb A n c ov rv args os rs) {R j : Nat} {cs : Array Value} (hr : w.heap[R]? = some (.cells cs 137 (0, 0))) (hR : w0.heap.size ≤ R) (u : Value) : St w0 (w.setCell ⟨R, j, none⟩ u) B fi lb tb A n c ov rv args os rs :=
  ⟨blk_far h.blk (p := ⟨R, j, none⟩) (blk_ne h.blk hr (by decide)) _, h.len, h.rd, h.cap, Kd.R_set h.op hr (by decide) j _, Kd.R_set h.re hr (by decide) j _, h.bel.setCell (p := ⟨R, j, none⟩) hR _, h.base⟩
end

/-- what cluster leaves -/
def Kept25 (w w' : World) : Prop := ∀ (k : Nat) (cs : Array Value), w.heap[k]? = some (Obj.cells cs 137 (0, 0)) → w'.heap[k]? = some (Obj.cells cs 137 (0, 0))
theorem Kept25.result {w w' : World} (h : Kept25 w w') (u v : Value) : Kept25 w ((w'.setCell ⟨w.heap.size, 0, none⟩ u).setCell ⟨w.heap.size, 1, none⟩ v) := fun k cs hc => by
  have hlt := blk_lt hc
  exact blk_far (blk_far (h k cs hc) (p := ⟨w.heap.size, 0, none⟩) (by show k ≠ w.heap.size; omega) _) (p := ⟨w.heap.size, 1, none⟩) (by show k ≠ w.heap.size; omega) _
def CPost (w0 w : World) (B : Nat) (fi : Bool) (lb tb : ByteArray) (rs : List ByteArray) (r : (ByteArray × Bool) ⊕ (List S67 × List ByteArray)) (e : Ending) (w' : World) : Prop :=
  match r with
  | .inl (n, m) => e = .returned (.tuple #[.agg #[.string n, .bool m], .int .i64 100]) ∧ Below w0.heap.size w0 w' ∧ Kept25 w w'
  | .inr (os', args') => e = .returned (.tuple #[.agg #[.string (mkB []), .bool false], .int .i64 0]) ∧ (∃ A n c ov rv, St w0 w' B fi lb tb A n c ov rv args' os' rs) ∧ Kept25 w w'

/-- the end of a cluster that is good: the result's cells are written anew -/
theorem CPost.good {w0 w W : World} {B R : Nat} {fi : Bool} {lb tb : ByteArray} {A : Option Addr} {n c : Nat} {ov rv : Value} {args : List ByteArray} {os : List S67} {rs : List ByteArray}
    (h : St w0 W B fi lb tb A n c ov rv args os rs) (hr : W.heap[R]? = some (.cells #[.string ⟨#[]⟩, .bool false] 137 (0, 0))) (hR : w0.heap.size ≤ R) (hk : Kept25 w W) (hw : w.heap.size ≤ R) :
    CPost w0 w B fi lb tb rs (.inr (os, args)) (.returned (.tuple #[.agg #[.string ⟨#[]⟩, .bool false], .int .i64 0])) ((W.setCell ⟨R, 0, none⟩ (.string ⟨#[]⟩)).setCell ⟨R, 1, none⟩ (.bool false)) :=
  ⟨rfl, ⟨_, _, _, _, _, (h.elsewhere hr hR _).elsewhere (blk_put hr 0 _ rfl) hR _⟩, fun k cs hc => by
    have hlt := blk_lt hc
    exact blk_far (blk_far (hk k cs hc) (p := ⟨R, 0, none⟩) (by show k ≠ R; omega) _) (p := ⟨R, 1, none⟩) (by show k ≠ R; omega) _⟩
theorem CPost.goodBlk {W : World} {R : Nat} (hr : W.heap[R]? = some (.cells #[.string ⟨#[]⟩, .bool false] 137 (0, 0))) :
    ((W.setCell ⟨R, 0, none⟩ (.string ⟨#[]⟩)).setCell ⟨R, 1, none⟩ (.bool false)).heap[R]? = some (.cells #[.string ⟨#[]⟩, .bool false] 137 (0, 0)) := blk_put (blk_put hr 0 _ rfl) 1 _ rfl

/-- a round's head -/
structure CRel (w0 w wr : World) (B R : Nat) (fi : Bool) (lb tb : ByteArray) (a : List UInt8) (rs : List ByteArray) (r : (ByteArray × Bool) ⊕ (List S67 × List ByteArray)) (ls ts : List UInt8) (k : Nat) (A : Option Addr) (n c : Nat) (ov rv : Value) (args : List ByteArray) (os : List S67) (N : Nat) : Prop where
  st : St w0 wr B fi lb tb A n c ov rv args os rs
  res : wr.heap[R]? = some (.cells #[.string ⟨#[]⟩, .bool false] 137 (0, 0))
  rb : w0.heap.size ≤ R
  run : clus ls ts (a.drop k) args os = r
  cnt : os.length + (a.length - k) ≤ N
  kle : k ≤ a.length
  far : Kept25 w wr

set_option maxHeartbeats 4000000 in
set_option maxRecDepth 100000 in
theorem cluster_calls (w0 w : World) (B : Nat) (fi : Bool) (ls ts : List UInt8) (A : Option Addr) (n c : Nat) (ov rv : Value) (args : List ByteArray) (os : List S67) (rs : List ByteArray)
    (h : St w0 w B fi (mkB ls) (mkB ts) A n c ov rv args os rs) (a : List UInt8) (hb : os.length + a.length ≤ 1099511627776) :
    Calls Tryz.prog 179 #[.pointer (some ⟨B, 0, none⟩), .string (mkB a)] w (CPost w0 w B fi (mkB ls) (mkB ts) rs (clus ls ts a args os)) := by
  obtain ⟨r, hr⟩ : ∃ r, r = clus ls ts a args os := ⟨_, rfl⟩
  rw [← hr]
  obtain ⟨lb, hlb⟩ : ∃ lb, lb = mkB ls := ⟨_, rfl⟩
  obtain ⟨tb, htb⟩ : ∃ tb, tb = mkB ts := ⟨_, rfl⟩
  obtain ⟨S, hS⟩ : ∃ S, S = mkB a := ⟨_, rfl⟩
  rw [← hlb, ← htb] at h ⊢
  rw [← hS]
  have hSz : S.size = a.length := by rw [hS]; exact mkB_size a
  have hSle : S.size ≤ 1099511627776 := by omega
  have HR := Lib.hid hr
  have HLB := Lib.hid hlb
  have HTB := Lib.hid htb
  have HS := Lib.hid hS
  have HZ := Lib.hid hSz
  clear hr hlb htb hS hSz
  have hst := Aside0.mk h
  clear h
  go_enter Tryz.func179, Tryz.ntmps179
  go_wp2
  go_loopw [12] (fun v wr => ∃ (k : Nat) (A : Option Addr) (n c : Nat) (ov rv : Value) (args : List ByteArray) (os : List S67), v = .int .i64 k ∧ CRel w0 w wr B w.heap.size fi lb tb a rs r ls ts k A n c ov rv args os 1099511627776) (fun v _ => S.size - (intOf v).toNat)
  case atStart =>
    refine ⟨0, A, n, c, ov, rv, args, os, rfl, ?_, ?_, hst.out.bel.size, ?_, by omega, Nat.zero_le _, fun k cs hc => blk_alloc hc _⟩
    · exact hst.out.below (below_alloc (Below.refl _ _) _)
    · exact blk_new w _
    · rw [HR.out]; rfl
  case round =>
    clear hst
    obtain ⟨k, A, n, c, ov, rv, args, os, rfl, HC⟩ := hrel
    have hkle := HC.kle
    by_cases hk : k < S.size
    · have hkl : k < a.length := by have := HZ.out; omega
      obtain ⟨b, hbd⟩ : ∃ b, b = a[k]'hkl := ⟨_, rfl⟩
      have hd : a.drop k = b :: a.drop (k + 1) := by rw [hbd]; exact List.drop_eq_getElem_cons hkl
      obtain ⟨nm, hnm⟩ : ∃ nm, nm = mkB [b] := ⟨_, rfl⟩
      obtain ⟨ab, habl⟩ : ∃ ab, ab = mkB (a.drop (k + 1)) := ⟨_, rfl⟩
      have hcut : ∀ W : World, (Instr.slice 9 (.string S) (some (.int .i64 (k : Int))) (some (.int .i64 ((k : Int) + 1))) none).run Tryz.prog W = .ok (.string nm) W := fun W => by
        have h0 := run_slice_string (P := Tryz.prog) W 9 S .i64 .i64 (k : Int) ((k : Int) + 1) Tryz.underlying9 (by omega) (by omega) (by omega)
        have e : S.extract (k : Int).toNat ((k : Int) + 1).toNat = nm := by
          rw [show ((k : Int) + 1).toNat = k + 1 from by omega, show (k : Int).toNat = k from by omega, hnm, HS.out, mkB_take1 a k hkl, hbd]
        rw [e] at h0
        exact h0
      have hcut2 : ∀ W : World, (Instr.slice 9 (.string S) (some (.int .i64 ((k : Int) + 1))) none none).run Tryz.prog W = .ok (.string ab) W := fun W => by
        have h0 := run_slice_string_l (P := Tryz.prog) W 9 S Tryz.underlying9 .i64 ((k : Int) + 1) (by omega) (by omega)
        have e : S.extract ((k : Int) + 1).toNat S.size = ab := by
          rw [show ((k : Int) + 1).toNat = k + 1 from by omega, habl, HS.out, mkB_drop]
        rw [e] at h0
        exact h0
      have HD := Lib.hid hd
      have HNM := Lib.hid hnm
      have HAB := Lib.hid habl
      clear hd hbd hnm habl
      have hc1 : ∀ W : World, Calls Tryz.prog 114 #[.string lb, .string nm] W fun e w' => e = .returned (.bool (ls.contains b)) ∧ W = w' := fun W => by
        rw [HNM.out, HLB.out]
        have := contains_byte (mkB ls) b W
        rw [mkB_data] at this
        exact this.mono fun e w' h => ⟨h.1, h.2.symm⟩
      have hc2 : ∀ W : World, Calls Tryz.prog 114 #[.string tb, .string nm] W fun e w' => e = .returned (.bool (ts.contains b)) ∧ W = w' := fun W => by
        rw [HNM.out, HTB.out]
        have := contains_byte (mkB ts) b W
        rw [mkB_data] at this
        exact this.mono fun e w' h => ⟨h.1, h.2.symm⟩
      have cl := blk_cell HC.st.blk 1
      have ct := blk_cell HC.st.blk 2
      have co := blk_cell HC.st.blk 4
      have fo := blk_frozen HC.st.blk 4
      simp at cl ct co
      have cr0 := blk_cell HC.res 0
      have cr1 := blk_cell HC.res 1
      have fr0 := blk_frozen HC.res 0
      have fr1 := blk_frozen HC.res 1
      simp at cr0 cr1
      have hrun := HC.run
      rw [HD.out] at hrun
      unfold clus at hrun
      by_cases hl : ls.contains b = false
      · rw [hl] at hc1
        rw [if_pos hl] at hrun
        have HRUN := Lib.hid hrun
        have HC1 := Lib.hid hc1
        clear hc1 hc2 hl hrun
        go_wp2_with fail
        refine (HC1.out _).mono ?_
        rintro e w' ⟨rfl, rfl⟩
        go_wp2
        refine bodyPost_ret (results_list (rs := [.cell 4 137, .tmp 5]) rfl (by simp) (.cell w.heap.size 137 #[.string nm, .bool false] (0, 0) _ rfl (blk_put (blk_put HC.res 0 _ rfl) 1 _ rfl) Tryz.underlying137 rfl (by kernel_rfl) (.tmp .nil))) rfl ?_
        rw [← HRUN.out]
        exact ⟨by rw [HNM.out]; rfl, (HC.st.bel.setCell (p := ⟨w.heap.size, 0, none⟩) HC.rb _).setCell (p := ⟨w.heap.size, 1, none⟩) HC.rb _, HC.far.result _ _⟩
      · have hl2 : ls.contains b = true := by simpa using hl
        rw [hl2] at hc1
        rw [if_neg hl] at hrun
        have HC1 := Lib.hid hc1
        clear hc1 hl hl2
        by_cases ht : ts.contains b = false
        · rw [ht] at hc2
          rw [if_pos ht] at hrun
          have HRUN := Lib.hid hrun
          have HC2 := Lib.hid hc2
          clear hc2 ht hrun
          go_wp2_with fail
          refine (HC1.out _).mono ?_
          rintro e w' ⟨rfl, rfl⟩
          go_wp2_with fail
          refine (HC2.out _).mono ?_
          rintro e w' ⟨rfl, rfl⟩
          have hcnt := HC.cnt
          go_wp2_with (((with_reducible refine gate_builtin (b := .append) (xs := #[.tmp 42, .tmp 45]) rfl ?_); at_builtin; refine Kd.R_append k67 (w0 := w0) w0.heap.size rfl (.tmp 42) (.tmp 45) 81 143 (.agg #[(.string ⟨#[]⟩), (.string ⟨#[]⟩)]) 32 rfl Tryz.underlying81 info67 rfl (by decide) (by omega) ov os (⟨nm, (⟨#[]⟩ : ByteArray)⟩ : S67) [.string nm, .string (⟨#[]⟩ : ByteArray)] (fun _ => True) (fun _ => False) rfl rfl (k67_mkM _ _ _ (⟨nm, (⟨#[]⟩ : ByteArray)⟩ : S67)) (fun _ hk => hk.elim) (fun _ _ => trivial) HC.st.op HC.st.bel HC.st.bel.size (by omega) ?_))
          intro v1 w1 ho hbel hg _
          obtain ⟨A2, c2, hv⟩ := Kd.R_slice ho
          rw [List.length_append, List.length_singleton] at hv
          subst hv
          have hbk := blk_grown HC.st.blk hg (Kd.R_ne HC.st.op HC.st.blk (by decide))
          have HP := Aside0.mk (HC.st.pushed ho hbel hg)
          have HF := Aside0.mk (HC.st.pushed_far hg HC.res (v1 := .slice A2 (os.length + 1) c2))
          have HK := Aside0.mk (show Kept25 w _ from fun k cs hc => HC.st.pushed_far hg (HC.far k cs hc) (v1 := .slice A2 (os.length + 1) c2))
          have c4 := blk_cell hbk 4
          have f4 := blk_frozen hbk 4
          simp at c4
          clear ho hbel hg hbk
          go_wp2
          go_roundw
          case rel =>
            refine ⟨k + 1, A, n, c, .slice A2 (os.length + 1) c2, rv, args, os ++ [(⟨nm, (⟨#[]⟩ : ByteArray)⟩ : S67)], by go_num, ?_⟩
            refine ⟨HP.out, HF.out, HC.rb, ?_, ?_, hkl, HK.out⟩
            · rw [← HRUN.out, HNM.out]; rfl
            · have := HC.cnt
              simp only [List.length_append, List.length_cons, List.length_nil]
              omega
          case measure => simp [intOf]; omega
        · have ht2 : ts.contains b = true := by simpa using ht
          rw [ht2] at hc2
          rw [if_neg ht] at hrun
          have HC2 := Lib.hid hc2
          clear hc2 ht ht2
          by_cases hab : (a.drop (k + 1)).isEmpty = false
          · rw [if_pos hab] at hrun
            have hea : ab.toList.isEmpty = false := by rw [HAB.out, ByteArray.toList_eq, mkB_data]; exact hab
            have HRUN := Lib.hid hrun
            have HAB2 := Lib.hid hab
            clear hrun hab
            go_wp2_with fail
            refine (HC1.out _).mono ?_
            rintro e w' ⟨rfl, rfl⟩
            go_wp2_with fail
            refine (HC2.out _).mono ?_
            rintro e w' ⟨rfl, rfl⟩
            have hcnt := HC.cnt
            go_wp2_with (((with_reducible refine gate_builtin (b := .append) (xs := #[.tmp 68, .tmp 72]) rfl ?_); at_builtin; refine Kd.R_append k67 (w0 := w0) w0.heap.size rfl (.tmp 68) (.tmp 72) 81 143 (.agg #[(.string ⟨#[]⟩), (.string ⟨#[]⟩)]) 32 rfl Tryz.underlying81 info67 rfl (by decide) (by omega) ov os (⟨nm, ab⟩ : S67) [.string nm, .string ab] (fun _ => True) (fun _ => False) rfl rfl (k67_mkM _ _ _ (⟨nm, ab⟩ : S67)) (fun _ hk => hk.elim) (fun _ _ => trivial) HC.st.op HC.st.bel HC.st.bel.size (by omega) ?_))
            intro v1 w1 ho hbel hg _
            obtain ⟨A2, c2, hv⟩ := Kd.R_slice ho
            rw [List.length_append, List.length_singleton] at hv
            subst hv
            have hbk := blk_grown HC.st.blk hg (Kd.R_ne HC.st.op HC.st.blk (by decide))
            have HP := Aside0.mk (HC.st.pushed ho hbel hg)
            have HF := Aside0.mk (HC.st.pushed_far hg HC.res (v1 := .slice A2 (os.length + 1) c2))
            have HK := Aside0.mk (show Kept25 w _ from fun k cs hc => HC.st.pushed_far hg (HC.far k cs hc) (v1 := .slice A2 (os.length + 1) c2))
            have c4 := blk_cell hbk 4
            have f4 := blk_frozen hbk 4
            simp at c4
            clear ho hbel hg hbk
            have cr0 := blk_cell HF.out 0
            have cr1 := blk_cell HF.out 1
            have fr0 := blk_frozen HF.out 0
            have fr1 := blk_frozen HF.out 1
            simp at cr0 cr1
            go_wp2
            refine bodyPost_ret (results_list (rs := [.cell 4 137, .tmp 5]) rfl (by simp) (.cell w.heap.size 137 #[.string ⟨#[]⟩, .bool false] (0, 0) _ rfl (CPost.goodBlk HF.out) Tryz.underlying137 rfl (by kernel_rfl) (.tmp .nil))) rfl ?_
            rw [← HRUN.out]
            rw [HNM.out, HAB.out] at HP
            exact CPost.good HP.out HF.out HC.rb HK.out (Nat.le_refl _)
          · rw [if_neg hab] at hrun
            have hab2 : (a.drop (k + 1)).isEmpty = true := by simpa using hab
            have hea : ab.toList.isEmpty = true := by rw [HAB.out, ByteArray.toList_eq, mkB_data]; exact hab2
            clear hab hab2
            have hlen := HC.st.len
            cases args with
            | nil =>
              obtain rfl : n = 0 := by rw [← hlen]; rfl
              have HRUN := Lib.hid hrun
              have HN := Aside0.mk (next_nil w0 wr B fi lb tb A c ov rv os rs HC.st)
              clear hrun hlen
              go_wp2_with fail
              refine (HC1.out _).mono ?_
              rintro e w' ⟨rfl, rfl⟩
              go_wp2_with fail
              refine (HC2.out _).mono ?_
              rintro e w' ⟨rfl, rfl⟩
              go_wp2_with fail
              refine HN.out.mono ?_
              rintro e w' ⟨rfl, ⟨nd, rfl⟩⟩
              go_wp2
              refine bodyPost_ret (results_list (rs := [.cell 4 137, .tmp 5]) rfl (by simp) (.cell w.heap.size 137 #[.string nm, .bool true] (0, 0) _ rfl (blk_put (blk_put (blk_drewN HC.res nd) 0 _ rfl) 1 _ rfl) Tryz.underlying137 rfl (by kernel_rfl) (.tmp .nil))) rfl ?_
              rw [← HRUN.out]
              exact ⟨by rw [HNM.out]; rfl, ((pw_below_drewN HC.st.bel nd).setCell (p := ⟨w.heap.size, 0, none⟩) HC.rb _).setCell (p := ⟨w.heap.size, 1, none⟩) HC.rb _, Kept25.result (w' := wr.drewN nd) (fun k cs hc => blk_drewN (HC.far k cs hc) nd) _ _⟩
            | cons x xs =>
              have HRUN := Lib.hid hrun
              have HN := Aside0.mk (next_cons w0 wr B fi lb tb A n c ov rv x xs os rs HC.st)
              have hcnt := HC.cnt
              clear hrun hlen
              go_wp2_with fail
              refine (HC1.out _).mono ?_
              rintro e w' ⟨rfl, rfl⟩
              go_wp2_with fail
              refine (HC2.out _).mono ?_
              rintro e w' ⟨rfl, rfl⟩
              go_wp2_with fail
              refine HN.out.mono ?_
              rintro e w2 ⟨rfl, ⟨A', n', c', hst2⟩, hfar⟩
              have HS2 := Aside0.mk hst2
              have HR2 := Aside0.mk ((hfar _ (blk_ne HC.res HC.st.blk (by decide))).trans HC.res)
              have HK2 := Aside0.mk (show Kept25 w w2 from fun k cs hc => (hfar _ (blk_ne (HC.far k cs hc) HC.st.blk (by decide))).trans (HC.far k cs hc))
              have co2 := blk_cell hst2.blk 4
              simp at co2
              clear hst2 hfar
              go_wp2_with (((with_reducible refine gate_builtin (b := .append) (xs := #[.tmp 68, .tmp 72]) rfl ?_); at_builtin; refine Kd.R_append k67 (w0 := w0) w0.heap.size rfl (.tmp 68) (.tmp 72) 81 143 (.agg #[(.string ⟨#[]⟩), (.string ⟨#[]⟩)]) 32 rfl Tryz.underlying81 info67 rfl (by decide) (by omega) ov os (⟨nm, x⟩ : S67) [.string nm, .string x] (fun _ => True) (fun _ => False) rfl rfl (k67_mkM _ _ _ (⟨nm, x⟩ : S67)) (fun _ hk => hk.elim) (fun _ _ => trivial) HS2.out.op HS2.out.bel HS2.out.bel.size (by omega) ?_))
              intro v1 w1 ho hbel hg _
              obtain ⟨A2, c2, hv⟩ := Kd.R_slice ho
              rw [List.length_append, List.length_singleton] at hv
              subst hv
              have hbk := blk_grown HS2.out.blk hg (Kd.R_ne HS2.out.op HS2.out.blk (by decide))
              have HP := Aside0.mk (HS2.out.pushed ho hbel hg)
              have HF := Aside0.mk (HS2.out.pushed_far hg HR2.out (v1 := .slice A2 (os.length + 1) c2))
              have HK := Aside0.mk (show Kept25 w _ from fun k cs hc => HS2.out.pushed_far hg (HK2.out k cs hc) (v1 := .slice A2 (os.length + 1) c2))
              have c4 := blk_cell hbk 4
              have f4 := blk_frozen hbk 4
              simp at c4
              clear ho hbel hg hbk
              have cr0 := blk_cell HF.out 0
              have cr1 := blk_cell HF.out 1
              have fr0 := blk_frozen HF.out 0
              have fr1 := blk_frozen HF.out 1
              simp at cr0 cr1
              go_wp2
              refine bodyPost_ret (results_list (rs := [.cell 4 137, .tmp 5]) rfl (by simp) (.cell w.heap.size 137 #[.string ⟨#[]⟩, .bool false] (0, 0) _ rfl (CPost.goodBlk HF.out) Tryz.underlying137 rfl (by kernel_rfl) (.tmp .nil))) rfl ?_
              rw [← HRUN.out]
              rw [HNM.out] at HP
              exact CPost.good HP.out HF.out HC.rb HK.out (Nat.le_refl _)
    · have hrun := HC.run
      rw [List.drop_eq_nil_of_le (by have := HZ.out; omega)] at hrun
      unfold clus at hrun
      have HRUN := Lib.hid hrun
      have cr0 := blk_cell HC.res 0
      have cr1 := blk_cell HC.res 1
      have fr0 := blk_frozen HC.res 0
      have fr1 := blk_frozen HC.res 1
      simp at cr0 cr1
      clear hrun
      go_wp2
      refine bodyPost_ret (results_list (rs := [.cell 4 137, .tmp 5]) rfl (by simp) (.cell w.heap.size 137 #[.string ⟨#[]⟩, .bool false] (0, 0) _ rfl (CPost.goodBlk HC.res) Tryz.underlying137 rfl (by kernel_rfl) (.tmp .nil))) rfl ?_
      rw [← HRUN.out]
      exact CPost.good HC.st HC.res HC.rb HC.far (Nat.le_refl _)

end Go.Proofs.YtfchidckklhmpaaGreatDoor.G
