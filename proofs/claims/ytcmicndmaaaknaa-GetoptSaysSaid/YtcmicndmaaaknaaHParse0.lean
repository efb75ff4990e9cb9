/- getopt.parse: a text is a spec just where its bytes scan as one; its letters, those with an argument, and whether a plus stands ahead. -/
import Derived.Test.YtcmicndmaaaknaaHRune
import Derived.RegionTactic
import Derived.ChangeAlike
import Derived.Deep.RegionWith
namespace Go.Proofs.Ytcmicndmaaaknaa.G
open Go.RowKit Go.Proofs.YtcmicndmaaaknaaW.PrintWords
set_option linter.unusedVariables false
set_option linter.unusedSimpArgs false

/-- what holds of memory at a round's head -/
structure PMem (w wr : World) (S : ByteArray) (fi : Bool) (pos : Nat) (lb tb : ByteArray) : Prop where
  res : wr.heap[w.heap.size]? = some (.cells #[.bool false, .string ⟨#[]⟩, .string ⟨#[]⟩] 53 (0, 0))
  sp : wr.heap[w.heap.size + 1]? = some (.cells #[.bool fi, .string lb, .string tb] 53 (0, 0))
  it : wr.heap[w.heap.size + 2]? = some (.stringIter S pos)
  bel : Below w.heap.size w wr

section
variable {w wr w1 : World} {S : ByteArray} {fi : Bool} {pos : Nat} {lb tb : ByteArray}
theorem PMem.next (h : PMem w wr S fi pos lb tb) (pos' : Nat) : PMem w (wr.iterAt (w.heap.size + 2) S pos') S fi pos' lb tb :=
  ⟨by rw [Lib.iterAt_other _ _ _ _ _ (by omega)]; exact h.res, by rw [Lib.iterAt_other _ _ _ _ _ (by omega)]; exact h.sp, Lib.iterAt_heap wr (w.heap.size + 2) S pos pos' h.it, Lib.below_iterAt h.bel (k := w.heap.size + 2) (by omega) S pos'⟩
theorem PMem.below (h : PMem w wr S fi pos lb tb) (hb : Below wr.heap.size wr w1) : PMem w w1 S fi pos lb tb :=
  ⟨blk_below h.res hb, blk_below h.sp hb, (hb.block _ (blk_lt h.it)).trans h.it, below_then h.bel h.bel.size hb⟩
theorem PMem.drew (h : PMem w wr S fi pos lb tb) : PMem w wr.drew S fi pos lb tb := ⟨h.res, h.sp, h.it, h.bel.drew⟩
theorem PMem.drewN (h : PMem w wr S fi pos lb tb) (n : Nat) : PMem w (wr.drewN n) S fi pos lb tb := ⟨h.res, h.sp, h.it, pw_below_drewN h.bel n⟩
theorem PMem.setT (h : PMem w wr S fi pos lb tb) (t : ByteArray) : PMem w (wr.setCell ⟨w.heap.size + 1, 2, none⟩ (.string t)) S fi pos lb t :=
  ⟨blk_far h.res (by simp) _, blk_put h.sp 2 _ rfl, by rw [Below.heap_setCell _ _ _ _ (by simp)]; exact h.it, h.bel.setCell (p := ⟨w.heap.size + 1, 2, none⟩) (by simp) _⟩
theorem PMem.setL (h : PMem w wr S fi pos lb tb) (l : ByteArray) : PMem w (wr.setCell ⟨w.heap.size + 1, 1, none⟩ (.string l)) S fi pos l tb :=
  ⟨blk_far h.res (by simp) _, blk_put h.sp 1 _ rfl, by rw [Below.heap_setCell _ _ _ _ (by simp)]; exact h.it, h.bel.setCell (p := ⟨w.heap.size + 1, 1, none⟩) (by simp) _⟩
end

theorem PMem.failed {w wr : World} {S : ByteArray} {fi : Bool} {pos : Nat} {lb tb : ByteArray} (h : PMem w wr S fi pos lb tb) :
    (((wr.setCell ⟨w.heap.size, 0, none⟩ (.bool false)).setCell ⟨w.heap.size, 1, none⟩ (.string ⟨#[]⟩)).setCell ⟨w.heap.size, 2, none⟩ (.string ⟨#[]⟩)).heap[w.heap.size]? = some (.cells #[.bool false, .string ⟨#[]⟩, .string ⟨#[]⟩] 53 (0, 0)) ∧
    Below w.heap.size w (((wr.setCell ⟨w.heap.size, 0, none⟩ (.bool false)).setCell ⟨w.heap.size, 1, none⟩ (.string ⟨#[]⟩)).setCell ⟨w.heap.size, 2, none⟩ (.string ⟨#[]⟩)) :=
  ⟨blk_put (blk_put (blk_put h.res 0 _ rfl) 1 _ rfl) 2 _ rfl, ((h.bel.setCell (p := ⟨w.heap.size, 0, none⟩) (Nat.le_refl _) _).setCell (p := ⟨w.heap.size, 1, none⟩) (Nat.le_refl _) _).setCell (p := ⟨w.heap.size, 2, none⟩) (Nat.le_refl _) _⟩

theorem PMem.wrote {w wr : World} {S : ByteArray} {fi : Bool} {pos : Nat} {lb tb : ByteArray} (h : PMem w wr S fi pos lb tb) :
    (((wr.setCell ⟨w.heap.size, 0, none⟩ (.bool fi)).setCell ⟨w.heap.size, 1, none⟩ (.string lb)).setCell ⟨w.heap.size, 2, none⟩ (.string tb)).heap[w.heap.size]? = some (.cells #[.bool fi, .string lb, .string tb] 53 (0, 0)) ∧
    Below w.heap.size w (((wr.setCell ⟨w.heap.size, 0, none⟩ (.bool fi)).setCell ⟨w.heap.size, 1, none⟩ (.string lb)).setCell ⟨w.heap.size, 2, none⟩ (.string tb)) :=
  ⟨blk_put (blk_put (blk_put h.res 0 _ rfl) 1 _ rfl) 2 _ rfl, ((h.bel.setCell (p := ⟨w.heap.size, 0, none⟩) (Nat.le_refl _) _).setCell (p := ⟨w.heap.size, 1, none⟩) (Nat.le_refl _) _).setCell (p := ⟨w.heap.size, 2, none⟩) (Nat.le_refl _) _⟩

theorem PMem.start (w : World) (S : ByteArray) (fi : Bool) (nd nd2 : Nat) :
    PMem w ((((((w.alloc (.cells #[.bool false, .string { data := #[] }, .string { data := #[] }] 53)).alloc (.cells #[.bool false, .string { data := #[] }, .string { data := #[] }] 53)).drewN nd).setCell { block := w.heap.size + 1, off := 0 } (.bool fi)).drewN nd2).iter S 0) S fi 0 (mkB []) (mkB []) := by
  have h1 := blk_drewN (blk_alloc (blk_new w (.cells #[.bool false, .string { data := #[] }, .string { data := #[] }] 53)) (.cells #[.bool false, .string { data := #[] }, .string { data := #[] }] 53)) nd
  have h2 := blk_drewN (blk_new (w.alloc (.cells #[.bool false, .string { data := #[] }, .string { data := #[] }] 53)) (.cells #[.bool false, .string { data := #[] }, .string { data := #[] }] 53)) nd
  rw [World.size_alloc] at h2
  have hb := pw_below_drewN (((Below.refl w.heap.size w).alloc (Nat.le_refl _) (.cells #[.bool false, .string { data := #[] }, .string { data := #[] }] 53)).alloc (by simp) (.cells #[.bool false, .string { data := #[] }, .string { data := #[] }] 53)) nd
  have hz : (((w.alloc (.cells #[.bool false, .string { data := #[] }, .string { data := #[] }] 53)).alloc (.cells #[.bool false, .string { data := #[] }, .string { data := #[] }] 53)).drewN nd).heap.size = w.heap.size + 2 := by
    show ((w.alloc _).alloc _).heap.size = _
    rw [World.size_alloc, World.size_alloc]
  generalize ((w.alloc (.cells #[.bool false, .string { data := #[] }, .string { data := #[] }] 53)).alloc (.cells #[.bool false, .string { data := #[] }, .string { data := #[] }] 53)).drewN nd = X at h1 h2 hb hz ⊢
  have h3 := blk_drewN (blk_far h1 (p := { block := w.heap.size + 1, off := 0 }) (by simp) (.bool fi)) nd2
  have h4 := blk_drewN (blk_put h2 0 (.bool fi) rfl) nd2
  have hb2 := pw_below_drewN (hb.setCell (p := ⟨w.heap.size + 1, 0, none⟩) (by simp) (.bool fi)) nd2
  have hz2 : ((X.setCell { block := w.heap.size + 1, off := 0 } (.bool fi)).drewN nd2).heap.size = w.heap.size + 2 := (World.size_setCell ..).trans hz
  generalize (X.setCell { block := w.heap.size + 1, off := 0 } (.bool fi)).drewN nd2 = Y at h3 h4 hb2 hz2 ⊢
  refine ⟨blk_alloc h3 _, blk_alloc h4 _, ?_, hb2.alloc (by omega) _⟩
  have := World.iter_heap Y S 0
  rw [hz2] at this
  exact this

def SpecPost (o : Option (Bool × List UInt8 × List UInt8)) (e : Ending) : Prop :=
  match o with
  | none => e = .returned (.tuple #[.agg #[.bool false, .string (mkB []), .string (mkB [])], .bool false])
  | some (fi, ls, ts) => e = .returned (.tuple #[.agg #[.bool fi, .string (mkB ls), .string (mkB ts)], .bool true])

set_option maxHeartbeats 4000000 in
set_option maxRecDepth 100000 in
theorem parse_calls (s : ByteArray) (w : World) (hs : s.size ≤ 140737488355328) :
    Calls Try.prog 26 #[.string s] w fun e w' => SpecPost (specOf s) e ∧ Below w.heap.size w w' := by
  obtain ⟨L, hL⟩ : ∃ L, L = strip s.data.toList := ⟨_, rfl⟩
  obtain ⟨fi, hfi⟩ : ∃ fi, fi = plus s.data.toList := ⟨_, rfl⟩
  have hp0 := hasPrefix_plus s
  have ht0 := trimPrefix_plus s
  rw [← hfi] at hp0
  rw [← hL] at ht0
  have hspec : Hid (specOf s = (scan L [] [] false).map fun p => (fi, p.1, p.2)) := by subst hL; subst hfi; rfl
  have hLs : L.length ≤ 140737488355328 := by
    have h1 : L.length ≤ s.data.toList.length := by rw [hL]; exact strip_le _
    have h2 := data_length s
    omega
  have hp := Lib.hid hp0
  have ht := Lib.hid ht0
  clear hp0 ht0 hL hfi
  have hu53 := Try.underlying53
  go_enter Try.func26, Try.ntmps26
  go_wp2_with (first
    | (go_at_call 36; (with_reducible refine (strings_HasPrefix.calls s ⟨#[43]⟩ fi _ hp.out).mono ?_); rintro e w' ⟨rfl, ⟨nd, rfl⟩⟩)
    | (go_at_call 37; (with_reducible refine (strings_TrimPrefix.calls s ⟨#[43]⟩ (mkB L) _ ht.out).mono ?_); rintro e w' ⟨rfl, ⟨nd2, rfl⟩⟩))
  go_loopw [5] (fun v wr => ∃ (pos : Nat) (ls ts : List UInt8) (last : Bool), v = .bool last ∧ PMem w wr (mkB L) fi pos (mkB ls) (mkB ts) ∧ PFact L pos ls ts last) (fun _ wr => (mkB L).size - wr.iterPos (w.heap.size + 2))
  case atStart => exact ⟨0, [], [], false, rfl, PMem.start w (mkB L) fi nd nd2, PFact.start L⟩
  case round =>
    obtain ⟨pos, ls, ts, last, rfl, HM, HF⟩ := hrel
    obtain ⟨S, hS⟩ : ∃ S, S = mkB L := ⟨_, rfl⟩
    have hSz : S.size = L.length := by rw [hS]; exact mkB_size L
    rw [← hS] at HM ⊢
    have HS := Lib.hid hS
    have HZ := Lib.hid hSz
    clear hS hSz
    obtain ⟨lb, hlb⟩ : ∃ lb, lb = mkB ls := ⟨_, rfl⟩
    obtain ⟨tb, htb⟩ : ∃ tb, tb = mkB ts := ⟨_, rfl⟩
    rw [← hlb, ← htb] at HM
    have hlz : lb.size = ls.length := by rw [hlb]; exact mkB_size ls
    have htz : tb.size = ts.length := by rw [htb]; exact mkB_size ts
    have hlzi : lb.size ≤ L.length := by have := HF.nl; have := HF.le; omega
    have htzi : tb.size ≤ L.length := by have := HF.nt; have := HF.le; omega
    have HLZ := Lib.hid hlz
    have HTZ := Lib.hid htz
    have HLB := Lib.hid hlb
    have HTB := Lib.hid htb
    clear hlz htz hlb htb
    have hit := HM.it
    by_cases hp2 : pos < S.size
    · have hpl : pos < L.length := by have := HZ.out; omega
      have hcc : S[pos]'hp2 = L[pos]'hpl := by simp only [HS.out]; exact mkB_get L pos _
      have hd : L.drop pos = L[pos]'hpl :: L.drop (pos + 1) := List.drop_eq_getElem_cons hpl
      obtain ⟨b, hb⟩ : ∃ b, b = L[pos]'hpl := ⟨_, rfl⟩
      rw [← hb] at hcc hd
      have HD := Lib.hid hd
      clear hd hb
      by_cases hc8 : (S[pos]'hp2).toNat < 128
      · have hnx : ∀ ty, (Instr.next (.pointer (some ⟨w.heap.size + 2, 0, none⟩)) true ty).run Try.prog wr = _ := fun ty => Lib.run_next_ascii_at wr (w.heap.size + 2) S pos ty hit hp2 hc8
        rw [hcc] at hc8
        simp only [hcc] at hnx
        obtain ⟨c, hc⟩ : ∃ c : Nat, b.toNat = c := ⟨_, rfl⟩
        rw [hc] at hnx hc8
        have HC := Lib.hid hc
        clear hc hcc
        have HM1 := HM.next (pos + 1)
        have HIT := Lib.hid hit
        clear hit
        obtain ⟨W1, hW1⟩ : ∃ W1, W1 = wr.iterAt (w.heap.size + 2) S (pos + 1) := ⟨_, rfl⟩
        rw [← hW1] at HM1
        simp only [← hW1] at hnx
        clear hW1
        have cl := blk_cell HM1.sp 1
        have ct := blk_cell HM1.sp 2
        have cf := blk_cell HM1.sp 0
        have fl := blk_frozen HM1.sp 1
        have ft := blk_frozen HM1.sp 2
        simp at cl ct cf
        by_cases hcolon : c = 58 ∧ last = true
        · obtain ⟨rfl, rfl⟩ := hcolon
          have hl1 : 1 ≤ lb.size := by have := HF.ne rfl; have := HLZ.out; omega
          go_wp2
          go_region
          go_wp2
          go_roundw
          case rel =>
            have HF2 := HF.colon hpl HD.out HC.out
            have e : tb ++ lb.extract (lb.size - 1) lb.size = mkB (ts ++ ls.drop (ls.length - 1)) := by
              rw [HTB.out, HLB.out, mkB_drop, mkB_append, mkB_size]
            refine ⟨pos + 1, ls, _, false, rfl, ?_, HF2⟩
            rw [← HLB.out, ← e]
            exact (HM1.setT _).drew
          case measure =>
            have h2 := (HM1.setT (tb ++ lb.extract (lb.size - 1) lb.size)).drew.it
            simp only [World.iterPos, h2, HIT.out]
            omega
        · have hcol : (((c : Int) == 58) = false) ∨ (c = 58 ∧ last = false) := by
            by_cases h : c = 58
            · right; exact ⟨h, by cases last; · rfl
                                  · exact absurd ⟨h, rfl⟩ hcolon⟩
            · left; rw [beq_eq_false_iff_ne]; omega
          by_cases hlet : isLet b = true
          · have hrange : (97 ≤ c ∧ c ≤ 122) ∨ (65 ≤ c ∧ c ≤ 90) ∨ (48 ≤ c ∧ c ≤ 57) := by
              have := hlet
              simp [isLet, HC.out] at this
              omega
            have HLET := Lib.hid hlet
            have HNC := Lib.hid hcolon
            clear hlet hcolon
            have hcol2 : ((c : Int) == 58) = false := by rw [beq_eq_false_iff_ne]; omega
            clear hcol
            have hasc := Lib.hid HF.asc
            have hlen : ls.length ≤ 140737488355328 := by have := HF.nl; have := HF.le; omega
            have hcon : hasR ls (c : Int) = ls.contains b := by
              unfold hasR
              rw [Bool.eq_iff_iff, List.any_eq_true, List.contains_iff_mem]
              constructor
              · rintro ⟨x, hx, he⟩
                have : x = b := UInt8.toNat_inj.1 (by rw [HC.out]; have := beq_iff_eq.1 he; omega)
                rw [← this]; exact hx
              · intro hx
                exact ⟨b, hx, by rw [HC.out]; simp⟩
            have hcall : ∀ W : World, Calls Try.prog 33 #[.string lb, .int .i32 (c : Int)] W fun e w' => e = .returned (.bool (hasR ls (c : Int))) ∧ Below W.heap.size W w' := by
              rw [HLB.out]
              exact fun W => hasRune_calls ls (c : Int) W hasc.out hlen
            rw [hcon] at hcall
            clear hcon hlen
            by_cases hin : ls.contains b = true
            · rw [hin] at hcall
              have hfail : scan L [] [] false = none := HF.fail HD.out (by rw [HC.out]; exact HNC.out) (fun e => by rw [hin] at e; exact absurd e.2 (by decide))
              have hpost : specOf s = none := by rw [hspec, hfail]; rfl
              have HPO := Lib.hid hpost
              have HCALL := Lib.hid hcall
              clear hfail hpost hin hcall
              rcases hrange with hr | hr | hr
              all_goals
                obtain ⟨hr, hr2⟩ := hr
                go_wp2_with fail
                refine (HCALL.out _).mono ?_
                rintro e W2 ⟨rfl, hbel⟩
                have HM2 := HM1.below hbel
                have cr0 := blk_cell HM2.res 0
                have cr1 := blk_cell HM2.res 1
                have cr2 := blk_cell HM2.res 2
                have fr0 := blk_frozen HM2.res 0
                have fr1 := blk_frozen HM2.res 1
                have fr2 := blk_frozen HM2.res 2
                simp at cr0 cr1 cr2
                clear hbel
                go_wp2
                exact bodyPost_ret (results_list (rs := [.cell 2 53, .tmp 3]) rfl (by simp) (.cell w.heap.size 53 #[.bool false, .string ⟨#[]⟩, .string ⟨#[]⟩] (0, 0) _ rfl HM2.failed.1 Try.underlying53 rfl (by kernel_rfl) (.tmp .nil))) rfl ⟨by rw [HPO.out]; rfl, HM2.failed.2⟩
            · have hin2 : ls.contains b = false := by simpa using hin
              rw [hin2] at hcall
              have HF2 := HF.letter hpl HD.out HLET.out hin2
              have HCALL := Lib.hid hcall
              clear hin hin2 hcall
              obtain ⟨eb, heb⟩ : ∃ eb, Utf8.encode (c : Int) = eb := ⟨_, rfl⟩
              have henc := encode_ascii c hc8 b HC.out
              rw [heb] at henc
              have hes : eb.size ≤ 1 := by rw [henc]; exact Nat.le_refl _
              have HEB := Aside0.mk heb
              clear heb
              have HENC := Lib.hid henc
              clear henc
              rcases hrange with hr | hr | hr
              all_goals
                obtain ⟨hr, hr2⟩ := hr
                go_wp2_with fail
                refine (HCALL.out _).mono ?_
                rintro e W2 ⟨rfl, hbel⟩
                have HM2 := HM1.below hbel
                have cl := blk_cell HM2.sp 1
                have fl := blk_frozen HM2.sp 1
                simp at cl
                clear hbel
                have heb := HEB.out
                go_wp2
                go_roundw
                case rel =>
                  refine ⟨pos + 1, ls ++ [b], ts, true, rfl, ?_, HF2⟩
                  have e : lb ++ eb = mkB (ls ++ [b]) := by rw [HLB.out, HENC.out, mkB_append]
                  rw [← HTB.out, ← e]
                  exact HM2.setL _
                case measure =>
                  have h2 := (HM2.setL (lb ++ eb)).it
                  simp only [World.iterPos, h2, HIT.out]
                  omega
          · have hfail : scan L [] [] false = none := HF.fail HD.out (by rw [HC.out]; exact hcolon) (fun e => hlet e.1)
            have hpost : specOf s = none := by rw [hspec, hfail]; rfl
            have hrange : c < 48 ∨ (57 < c ∧ c < 65) ∨ (90 < c ∧ c < 97) ∨ 122 < c := by
              have : isLet b = false := by simpa using hlet
              simp [isLet, HC.out] at this
              omega
            clear hlet
            have HFA := Lib.hid hfail
            have HPO := Lib.hid hpost
            clear hfail hpost hcolon
            have cr0 := blk_cell HM1.res 0
            have cr1 := blk_cell HM1.res 1
            have cr2 := blk_cell HM1.res 2
            have fr0 := blk_frozen HM1.res 0
            have fr1 := blk_frozen HM1.res 1
            have fr2 := blk_frozen HM1.res 2
            simp at cr0 cr1 cr2
            rcases hrange with hr | ⟨hr, hr2⟩ | ⟨hr, hr2⟩ | hr
            · have hcol2 : ((c : Int) == 58) = false := by rw [beq_eq_false_iff_ne]; omega
              clear hcol
              go_wp2
              exact bodyPost_ret (results_list (rs := [.cell 2 53, .tmp 3]) rfl (by simp) (.cell w.heap.size 53 #[.bool false, .string ⟨#[]⟩, .string ⟨#[]⟩] (0, 0) _ rfl HM1.failed.1 Try.underlying53 rfl (by kernel_rfl) (.tmp .nil))) rfl ⟨by rw [HPO.out]; rfl, HM1.failed.2⟩
            · rcases hcol with hcol2 | ⟨rfl, rfl⟩
              · go_wp2
                exact bodyPost_ret (results_list (rs := [.cell 2 53, .tmp 3]) rfl (by simp) (.cell w.heap.size 53 #[.bool false, .string ⟨#[]⟩, .string ⟨#[]⟩] (0, 0) _ rfl HM1.failed.1 Try.underlying53 rfl (by kernel_rfl) (.tmp .nil))) rfl ⟨by rw [HPO.out]; rfl, HM1.failed.2⟩
              · go_wp2
                exact bodyPost_ret (results_list (rs := [.cell 2 53, .tmp 3]) rfl (by simp) (.cell w.heap.size 53 #[.bool false, .string ⟨#[]⟩, .string ⟨#[]⟩] (0, 0) _ rfl HM1.failed.1 Try.underlying53 rfl (by kernel_rfl) (.tmp .nil))) rfl ⟨by rw [HPO.out]; rfl, HM1.failed.2⟩
            · have hcol2 : ((c : Int) == 58) = false := by rw [beq_eq_false_iff_ne]; omega
              clear hcol
              go_wp2
              exact bodyPost_ret (results_list (rs := [.cell 2 53, .tmp 3]) rfl (by simp) (.cell w.heap.size 53 #[.bool false, .string ⟨#[]⟩, .string ⟨#[]⟩] (0, 0) _ rfl HM1.failed.1 Try.underlying53 rfl (by kernel_rfl) (.tmp .nil))) rfl ⟨by rw [HPO.out]; rfl, HM1.failed.2⟩
            · have hcol2 : ((c : Int) == 58) = false := by rw [beq_eq_false_iff_ne]; omega
              clear hcol
              go_wp2
              exact bodyPost_ret (results_list (rs := [.cell 2 53, .tmp 3]) rfl (by simp) (.cell w.heap.size 53 #[.bool false, .string ⟨#[]⟩, .string ⟨#[]⟩] (0, 0) _ rfl HM1.failed.1 Try.underlying53 rfl (by kernel_rfl) (.tmp .nil))) rfl ⟨by rw [HPO.out]; rfl, HM1.failed.2⟩
      · have hc9 : 128 ≤ (S[pos]'hp2).toNat := by omega
        have hnx : ∀ ty, (Instr.next (.pointer (some ⟨w.heap.size + 2, 0, none⟩)) true ty).run Try.prog wr = _ := fun ty => Lib.run_next_any_at wr (w.heap.size + 2) S pos ty hit hp2
        have hdh := (decode_high S pos hp2 hc9).1
        rw [hcc] at hc9
        have hfail : scan L [] [] false = none := HF.fail HD.out (fun e => by have := e.1; omega) (fun e => by have := isLet_low e.1; omega)
        have hpost : specOf s = none := by rw [hspec, hfail]; rfl
        have HPO := Lib.hid hpost
        have HM1 := HM.next (pos + (Utf8.decode S pos).2)
        obtain ⟨W1, hW1⟩ : ∃ W1, W1 = wr.iterAt (w.heap.size + 2) S (pos + (Utf8.decode S pos).2) := ⟨_, rfl⟩
        rw [← hW1] at HM1
        simp only [← hW1] at hnx
        obtain ⟨c, hc⟩ : ∃ c : Nat, (Utf8.decode S pos).1 = c := ⟨_, rfl⟩
        rw [hc] at hdh
        simp only [hc] at hnx
        clear hW1 hc hfail hpost hc8 hc9 hcc hit
        have hcol2 : ((c : Int) == 58) = false := by rw [beq_eq_false_iff_ne]; omega
        have cr0 := blk_cell HM1.res 0
        have cr1 := blk_cell HM1.res 1
        have cr2 := blk_cell HM1.res 2
        have fr0 := blk_frozen HM1.res 0
        have fr1 := blk_frozen HM1.res 1
        have fr2 := blk_frozen HM1.res 2
        simp at cr0 cr1 cr2
        go_wp2
        exact bodyPost_ret (results_list (rs := [.cell 2 53, .tmp 3]) rfl (by simp) (.cell w.heap.size 53 #[.bool false, .string ⟨#[]⟩, .string ⟨#[]⟩] (0, 0) _ rfl HM1.failed.1 Try.underlying53 rfl (by kernel_rfl) (.tmp .nil))) rfl ⟨by rw [HPO.out]; rfl, HM1.failed.2⟩
    · have hnx : ∀ ty, (Instr.next (.pointer (some ⟨w.heap.size + 2, 0, none⟩)) true ty).run Try.prog wr = _ := fun ty => Lib.run_next_end_at wr (w.heap.size + 2) S pos ty hit hp2
      have hdone : scan L [] [] false = some (ls, ts) := HF.done (by have := HZ.out; omega)
      have hpost : specOf s = some (fi, ls, ts) := by rw [hspec, hdone]; rfl
      have HPO := Lib.hid hpost
      clear hdone hpost
      have cr0 := blk_cell HM.res 0
      have cr1 := blk_cell HM.res 1
      have cr2 := blk_cell HM.res 2
      have fr0 := blk_frozen HM.res 0
      have fr1 := blk_frozen HM.res 1
      have fr2 := blk_frozen HM.res 2
      have cs0 := blk_cell HM.sp 0
      have cs1 := blk_cell HM.sp 1
      have cs2 := blk_cell HM.sp 2
      simp at cr0 cr1 cr2 cs0 cs1 cs2
      go_wp2
      refine bodyPost_ret (results_list (rs := [.cell 2 53, .tmp 3]) rfl (by simp) (.cell w.heap.size 53 #[.bool fi, .string lb, .string tb] (0, 0) _ rfl HM.wrote.1 Try.underlying53 rfl (by kernel_rfl) (.tmp .nil))) rfl ⟨?_, HM.wrote.2⟩
      rw [HPO.out, HLB.out, HTB.out]
      rfl

end Go.Proofs.Ytcmicndmaaaknaa.G
