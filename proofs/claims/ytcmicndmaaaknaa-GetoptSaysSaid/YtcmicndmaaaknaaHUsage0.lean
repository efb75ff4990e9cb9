/- getopt.Usage: a spec written as usage. -/
import Derived.Test.YtcmicndmaaaknaaHParse0
import Derived.Test.YtcmicndmaaaknaaHSJoin
import Derived.Outline
namespace Go.Proofs.Ytcmicndmaaaknaa.G
open Go.RowKit Go.Proofs.YtcmicndmaaaknaaW.PrintWords
set_option linter.unusedVariables false
set_option linter.unusedSimpArgs false

/-! ### a spec's letters are few -/
theorem nodup_le : ∀ (n : Nat) (l : List Nat), l.Nodup → (∀ x ∈ l, x < n) → l.length ≤ n := by
  intro n
  induction n with
  | zero =>
    intro l _ h
    cases l with
    | nil => exact Nat.le_refl _
    | cons x r => exact absurd (h x (List.mem_cons_self ..)) (Nat.not_lt_zero _)
  | succ n ih =>
    intro l hn h
    by_cases hm : n ∈ l
    · have h1 := ih (l.erase n) (hn.erase n) (fun x hx => by
        have hx2 := hn.mem_erase_iff.1 hx
        have := h x hx2.2
        have := hx2.1
        omega)
      have h2 := List.length_erase_of_mem hm
      omega
    · have := ih l hn (fun x hx => by
        have := h x hx
        have : x ≠ n := fun e => hm (by rw [← e]; exact hx)
        omega)
      omega

theorem scan_facts : ∀ (l ls ts : List UInt8) (last : Bool) {ls' ts' : List UInt8}, (∀ b ∈ ls, isLet b = true) → (∀ b ∈ ts, isLet b = true) → ls.Nodup → scan l ls ts last = some (ls', ts') →
    (∀ b ∈ ls', isLet b = true) ∧ (∀ b ∈ ts', isLet b = true) ∧ ls'.Nodup := by
  intro l
  induction l with
  | nil =>
    intro ls ts last ls' ts' h1 h2 h3 h
    simp only [scan] at h
    injection h with h
    injection h with e1 e2
    subst e1 e2
    exact ⟨h1, h2, h3⟩
  | cons b r ih =>
    intro ls ts last ls' ts' h1 h2 h3 h
    unfold scan at h
    by_cases c1 : b.toNat = 58 ∧ last = true
    · rw [if_pos c1] at h
      refine ih _ _ _ h1 (fun x hx => ?_) h3 h
      rcases List.mem_append.1 hx with hx | hx
      · exact h2 x hx
      · exact h1 x (List.mem_of_mem_drop hx)
    · rw [if_neg c1] at h
      by_cases c2 : isLet b = true ∧ ls.contains b = false
      · rw [if_pos c2] at h
        refine ih _ _ _ (fun x hx => ?_) h2 ?_ h
        · rcases List.mem_append.1 hx with hx | hx
          · exact h1 x hx
          · rw [List.mem_singleton.1 hx]; exact c2.1
        · rw [List.nodup_append]
          refine ⟨h3, by simp, fun x hx y hy e => ?_⟩
          rw [List.mem_singleton.1 hy] at e
          have := c2.2
          rw [← e] at this
          rw [List.contains_iff_mem.2 hx] at this
          cases this
      · rw [if_neg c2] at h; cases h

theorem spec_few {s : ByteArray} {fi : Bool} {ls ts : List UInt8} (h : specOf s = some (fi, ls, ts)) : (∀ b ∈ ls, isLet b = true) ∧ (∀ b ∈ ts, isLet b = true) ∧ ls.length ≤ 256 := by
  unfold specOf at h
  obtain ⟨p, hp, he⟩ := Option.map_eq_some_iff.1 h
  obtain ⟨p1, p2⟩ := p
  injection he with e0 e
  injection e with e1 e2
  simp only at e1 e2
  subst e1 e2
  obtain ⟨h1, h2, h3⟩ := scan_facts _ _ _ _ (by simp) (by simp) (by simp) hp
  refine ⟨h1, h2, ?_⟩
  have := nodup_le 256 (p1.map UInt8.toNat) (by
    rw [List.nodup_iff_pairwise_ne] at h3 ⊢
    rw [List.pairwise_map]
    exact h3.imp (fun hne e => hne (UInt8.toNat_inj.1 e))) (by
    intro x hx
    obtain ⟨b, _, rfl⟩ := List.mem_map.1 hx
    exact b.toNat_lt)
  rwa [List.length_map] at this

theorem scan_short2 : ∀ (l ls ts : List UInt8) (last : Bool) {ls' ts' : List UInt8}, scan l ls ts last = some (ls', ts') → ts'.length ≤ ts.length + l.length := by
  intro l
  induction l with
  | nil =>
    intro ls ts last ls' ts' h
    simp only [scan] at h
    injection h with h
    injection h with h1 h2
    subst h1 h2
    simp
  | cons b r ih =>
    intro ls ts last ls' ts' h
    unfold scan at h
    by_cases h1 : b.toNat = 58 ∧ last = true
    · rw [if_pos h1] at h
      have := ih _ _ _ h
      simp only [List.length_append, List.length_drop, List.length_cons] at this ⊢
      omega
    · rw [if_neg h1] at h
      by_cases h2 : isLet b = true ∧ ls.contains b = false
      · rw [if_pos h2] at h
        have := ih _ _ _ h
        simp only [List.length_cons] at this ⊢
        omega
      · rw [if_neg h2] at h; cases h
theorem spec_short2 {s : ByteArray} {fi : Bool} {ls ts : List UInt8} (h : specOf s = some (fi, ls, ts)) : ts.length ≤ s.size := by
  unfold specOf at h
  obtain ⟨p, hp, he⟩ := Option.map_eq_some_iff.1 h
  obtain ⟨p1, p2⟩ := p
  injection he with e0 e
  injection e with e1 e2
  simp only at e1 e2
  subst e1 e2
  have := scan_short2 _ _ _ _ hp
  have h2 := strip_le s.data.toList
  rw [data_length] at h2
  simp at this
  omega

/-! ### the texts' lengths -/
def jw (l : List (List UInt8)) : Nat := (l.map fun x => x.length + 1).sum
theorem jw_add (a b : List (List UInt8)) : jw (a ++ b) = jw a + jw b := by simp [jw]
theorem jw_cons (x : List UInt8) (b : List (List UInt8)) : jw (x :: b) = x.length + 1 + jw b := by simp [jw]
theorem joinSp_le : ∀ l : List (List UInt8), (joinSp l).length ≤ jw l
  | [] => Nat.zero_le _
  | [x] => by rw [joinSp, jw_cons]; omega
  | x :: y :: r => by
    have := joinSp_le (y :: r)
    rw [joinSp, jw_cons, List.length_append, List.length_cons]
    omega
theorem map_data (l : List (List UInt8)) : (l.map mkB).map (·.data.toList) = l := by
  rw [List.map_map]
  have : ((fun x : ByteArray => x.data.toList) ∘ mkB) = id := by funext x; exact mkB_data x
  rw [this, List.map_id]

/-- a row of one text, just made -/
theorem R_single (x : ByteArray) (w : World) (base : Nat) (hb : base ≤ w.heap.size) : Kd.R Kd.string 9 (w.alloc (.cells #[.string x] 9)) base (fun _ => True) (.slice (some ⟨w.heap.size, 0, none⟩) 1 1) [x] := by
  refine ⟨fun _ _ => trivial, [.string x], ⟨rfl, .inr ⟨w.heap.size, 1, #[.string x], rfl, hb, blk_new _ _, Nat.le_refl _, by decide, rfl, rfl⟩⟩, rfl, ?_⟩
  intro j p hj
  cases j with
  | zero =>
    injection hj with hj
    subst hj
    rfl
  | succ j => simp at hj

/-- an iterator moves: rows of texts stay -/
theorem R_iter {w : World} {base : Nat} {v : Value} {xs : List ByteArray} (h : Kd.R Kd.string 9 w base (fun _ => True) v xs) {g : Nat} {S : ByteArray} {pos : Nat} (hg : w.heap[g]? = some (.stringIter S pos)) (pos' : Nat) :
    Kd.R Kd.string 9 (w.iterAt g S pos') base (fun _ => True) v xs := by
  refine Kd.R_mono (Kd.R_move (Kd.R_bound h) (fun k hk => ?_)) (fun _ _ => trivial)
  obtain ⟨_, _, _, q, _, cells, hc⟩ := hk
  refine Lib.iterAt_other _ _ _ _ _ ?_
  rintro rfl
  rw [hc] at hg
  cases hg

/-- a round's head -/
structure URel (w wr : World) (B : Nat) (fi : Bool) (lb tb : ByteArray) (ls ts : List UInt8) (fin : List UInt8 × List (List UInt8)) (pos : Nat) (pb : ByteArray) (lv : Value) (p : List UInt8) (l : List (List UInt8)) : Prop where
  own : Kd.R Kd.string 9 wr w.heap.size (fun _ => True) lv (l.map mkB)
  sp : wr.heap[B]? = some (.cells #[.bool fi, .string lb, .string tb] 53 (0, 0))
  it : wr.heap[B + 1]? = some (.stringIter lb pos)
  bel : Below w.heap.size w wr
  run : uparts ts (ls.drop pos) p l = fin
  pl : pb = mkB p
  lp : p.length ≤ pos
  ll : l.length ≤ pos
  lw : jw l ≤ 9 * pos
  le : pos ≤ ls.length

set_option maxHeartbeats 8000000 in
set_option maxRecDepth 100000 in
theorem usage_loop_calls (s : ByteArray) (w : World) (hs : s.size ≤ 140737488355328) (fi : Bool) (ls ts : List UInt8) (hspec : specOf s = some (fi, ls, ts)) :
    Calls Try.prog 22 #[.string s] w fun e w' => e = .returned (.tuple #[.string (mkB (joinSp (usageText ls ts))), .int .i64 0]) ∧ Below w.heap.size w w' := by
  obtain ⟨hLA, hTA, hfew⟩ := spec_few hspec
  have htl : ts.length ≤ 140737488355328 := by have := spec_short2 hspec; omega
  obtain ⟨res, hres⟩ : ∃ res, res = usageText ls ts := ⟨_, rfl⟩
  rw [← hres]
  obtain ⟨fin, hfin⟩ : ∃ fin, fin = uparts ts ls [] [] := ⟨_, rfl⟩
  unfold usageText at hres
  rw [← hfin] at hres
  have HRES := Aside0.mk hres
  have HFIN := Aside0.mk hfin
  have HLA := Aside0.mk hLA
  have HTA := Aside0.mk hTA
  have HSP := Aside0.mk hspec
  clear hspec hres hfin hLA hTA
  have hu53 := Try.underlying53
  go_enter Try.func22, Try.ntmps22
  go_wp2_with fail
  refine (parse_calls s _ (by omega)).mono ?_
  rintro e w1 ⟨hsp, hb1⟩
  rw [HSP.out] at hsp
  obtain rfl := hsp
  obtain ⟨lb, hlb⟩ : ∃ lb, lb = mkB ls := ⟨_, rfl⟩
  obtain ⟨tb, htb⟩ : ∃ tb, tb = mkB ts := ⟨_, rfl⟩
  rw [← hlb, ← htb]
  have hlz : lb.size = ls.length := by rw [hlb]; exact mkB_size ls
  have HLZ := Aside0.mk hlz
  have HLB := Aside0.mk hlb
  have HTB := Aside0.mk htb
  have HB1 := Aside0.mk hb1
  clear hlb htb hb1 hlz
  go_wp2
  go_loopw [6, 7] (fun vp vl wr => ∃ (pos : Nat) (pb : ByteArray) (p : List UInt8) (l : List (List UInt8)), vp = .string pb ∧ URel w wr w1.heap.size fi lb tb ls ts fin pos pb vl p l) (fun _ _ wr => lb.size - wr.iterPos (w1.heap.size + 1))
  case atStart =>
    refine ⟨0, _, [], [], rfl, Kd.R_nil _ _ _ _ _, ?_, ?_, ?_, HFIN.out.symm, rfl, Nat.zero_le _, Nat.zero_le _, Nat.zero_le _, Nat.zero_le _⟩
    · exact blk_alloc (blk_new _ _) _
    · have := World.iter_heap (w1.alloc (.cells #[.bool fi, .string lb, .string tb] 53)) lb 0
      simpa using this
    · exact (HB1.out.alloc HB1.out.size _).alloc (HB1.out.alloc HB1.out.size _).size _
  case round =>
    obtain ⟨pos, pb, p, l, rfl, HU⟩ := hrel
    have hit := HU.it
    have ct := blk_cell HU.sp 2
    simp at ct
    by_cases hp2 : pos < lb.size
    · have hpl : pos < ls.length := by have := HLZ.out; omega
      have hcc : lb[pos]'hp2 = ls[pos]'hpl := by simp only [HLB.out]; exact mkB_get ls pos _
      have hc8 : (lb[pos]'hp2).toNat < 128 := by rw [hcc]; exact isLet_low (HLA.out _ (List.getElem_mem hpl))
      have hnx : ∀ ty, (Instr.next (.pointer (some ⟨w1.heap.size + 1, 0, none⟩)) true ty).run Try.prog wr = _ := fun ty => Lib.run_next_ascii_at wr (w1.heap.size + 1) lb pos ty hit hp2 hc8
      have hrun := HU.run
      rw [List.drop_eq_getElem_cons hpl] at hrun
      obtain ⟨b, hb⟩ : ∃ b, b = ls[pos]'hpl := ⟨_, rfl⟩
      rw [← hb] at hrun hcc
      rw [hcc] at hc8
      simp only [hcc] at hnx
      obtain ⟨c, hc⟩ : ∃ c : Nat, b.toNat = c := ⟨_, rfl⟩
      rw [hc] at hnx hc8
      unfold uparts at hrun
      have hcon : hasR ts (c : Int) = ts.contains b := by
        unfold hasR
        rw [Bool.eq_iff_iff, List.any_eq_true, List.contains_iff_mem]
        constructor
        · rintro ⟨x, hx, he⟩
          have : x = b := UInt8.toNat_inj.1 (by rw [hc]; have := beq_iff_eq.1 he; omega)
          rw [← this]; exact hx
        · intro hx
          exact ⟨b, hx, by rw [hc]; simp⟩
      have hcall : ∀ W : World, Calls Try.prog 33 #[.string tb, .int .i32 (c : Int)] W fun e w' => e = .returned (.bool (ts.contains b)) ∧ Below W.heap.size W w' := by
        rw [HTB.out, ← hcon]
        exact fun W => hasRune_calls ts (c : Int) W (fun x hx => isLet_low (HTA.out x hx)) htl
      have HCALL := Aside0.mk hcall
      obtain ⟨W1, hW1⟩ : ∃ W1, W1 = wr.iterAt (w1.heap.size + 1) lb (pos + 1) := ⟨_, rfl⟩
      have hown := R_iter HU.own hit (pos + 1)
      have hsp1 : (wr.iterAt (w1.heap.size + 1) lb (pos + 1)).heap[w1.heap.size]? = some (.cells #[.bool fi, .string lb, .string tb] 53 (0, 0)) := by
        rw [Lib.iterAt_other _ _ _ _ _ (by omega)]; exact HU.sp
      have hit1 := Lib.iterAt_heap wr (w1.heap.size + 1) lb pos (pos + 1) hit
      have hbel1 := Lib.below_iterAt HU.bel (k := w1.heap.size + 1) (by have := HB1.out.size; omega) lb (pos + 1)
      simp only [← hW1] at hnx
      rw [← hW1] at hown hsp1 hit1 hbel1
      have ct1 := blk_cell hsp1 2
      simp at ct1
      obtain ⟨eb, heb⟩ : ∃ eb, Utf8.encode (c : Int) = eb := ⟨_, rfl⟩
      have henc := encode_ascii c hc8 b hc
      rw [heb] at henc
      have hes : eb.size ≤ 1 := by rw [henc]; exact Nat.le_refl _
      have HEB := Aside0.mk heb
      have HENC := Aside0.mk henc
      have HOWN := Aside0.mk hown
      have HSP1 := Aside0.mk hsp1
      have HIT1 := Aside0.mk hit1
      have HIT := Aside0.mk hit
      have HBEL1 := Aside0.mk hbel1
      have hpz : pb.size ≤ 256 := by rw [HU.pl, mkB_size]; have := HU.lp; have := HU.le; omega
      have hll : (l.map mkB).length ≤ 256 := by rw [List.length_map]; have := HU.ll; have := HU.le; omega
      clear henc hown hsp1 hit1 hbel1 hcall hcon hW1 hb hcc hit heb hc
      by_cases ht : ts.contains b = true
      · rw [if_pos ht] at hrun
        rw [ht] at HCALL
        have HRUN := Aside0.mk hrun
        clear hrun ht
        go_wp2_with fail
        refine (HCALL.out _).mono ?_
        rintro e W2 ⟨rfl, hbel⟩
        have HOWN2 := Aside0.mk (Kd.R_below HOWN.out hbel)
        have HSP2 := Aside0.mk (blk_below HSP1.out hbel)
        have HIT2 := Aside0.mk ((hbel.block _ (blk_lt HIT1.out)).trans HIT1.out)
        have HB2 := Aside0.mk (below_then HBEL1.out HBEL1.out.size hbel)
        clear hbel
        have hcv : ∀ W : World, (convert 21 9 (.int .i32 (c : Int))).run Try.prog W = .ok (.string eb) W := fun W => by
          rw [run_convert_int_string (k := .i32) (hs := rfl) (hd := Try.underlying9), HEB.out]
        go_wp2_with ((with_reducible refine gate_builtin (b := .append) (xs := #[.tmp 27, .tmp 32]) rfl ?_); at_builtin; refine Kd.R_append Kd.string (w0 := w) w.heap.size rfl (.tmp 27) (.tmp 32) 22 9 (.string ⟨#[]⟩) 16 rfl Try.underlying22 info9 rfl (by decide) (by omega) u7 (l.map mkB) (((⟨#[91, 45]⟩ : ByteArray) ++ eb) ++ (⟨#[32, 97, 114, 103, 93]⟩ : ByteArray)) [.string (((⟨#[91, 45]⟩ : ByteArray) ++ eb) ++ (⟨#[32, 97, 114, 103, 93]⟩ : ByteArray))] (fun _ => True) (fun _ => False) rfl rfl rfl (fun _ hk => hk.elim) (fun _ _ => trivial) HOWN2.out HB2.out HB2.out.size (by omega) ?_)
        intro v1 w3 ho hbel hg _
        have hsp3 := blk_grown HSP2.out hg (Kd.R_ne HOWN2.out HSP2.out (by decide))
        have hit3 : w3.heap[w1.heap.size + 1]? = some (.stringIter lb (pos + 1)) := by
          refine blk_grown HIT2.out hg (fun e => ?_)
          obtain ⟨inner, hown⟩ := Kd.R_own HOWN2.out
          obtain ⟨cells, hc⟩ := own_typed hown (w1.heap.size + 1) e.symm
          rw [HIT2.out] at hc
          cases hc
        have hX : ((⟨#[91, 45]⟩ : ByteArray) ++ eb) ++ (⟨#[32, 97, 114, 103, 93]⟩ : ByteArray) = mkB [91, 45, b, 32, 97, 114, 103, 93] := by rw [HENC.out]; rfl
        rw [hX] at ho
        have HREL : Aside0 (URel w w3 w1.heap.size fi lb tb ls ts fin (pos + 1) pb v1 p (l ++ [[91, 45, b, 32, 97, 114, 103, 93]])) := ⟨⟨by rw [List.map_append]; exact ho, hsp3, hit3, hbel, HRUN.out, HU.pl, by have := HU.lp; omega, by have := HU.ll; rw [List.length_append, List.length_singleton]; omega, by have := HU.lw; rw [jw_add, jw_cons]; simp only [List.length_cons, List.length_nil, jw, List.map_nil, List.sum_nil] at this ⊢; omega, hpl⟩⟩
        clear ho hbel hg hsp3 hit3 hX
        go_wp2
        go_roundw
        case rel => exact ⟨pos + 1, pb, p, _, by go_num, HREL.out⟩
        case measure =>
          have h2 := HREL.out.it
          simp only [World.iterPos, h2, HIT.out]
          omega
      · rw [if_neg ht] at hrun
        have ht2 : ts.contains b = false := by simpa using ht
        rw [ht2] at HCALL
        have HRUN := Aside0.mk hrun
        clear hrun ht ht2
        go_wp2_with fail
        refine (HCALL.out _).mono ?_
        rintro e W2 ⟨rfl, hbel⟩
        have HOWN2 := Aside0.mk (Kd.R_below HOWN.out hbel)
        have HSP2 := Aside0.mk (blk_below HSP1.out hbel)
        have HIT2 := Aside0.mk ((hbel.block _ (blk_lt HIT1.out)).trans HIT1.out)
        have HB2 := Aside0.mk (below_then HBEL1.out HBEL1.out.size hbel)
        clear hbel
        have hcv : ∀ W : World, (convert 21 9 (.int .i32 (c : Int))).run Try.prog W = .ok (.string eb) W := fun W => by
          rw [run_convert_int_string (k := .i32) (hs := rfl) (hd := Try.underlying9), HEB.out]
        have hX : pb ++ eb = mkB (p ++ [b]) := by rw [HU.pl, HENC.out, mkB_append]
        have HREL : Aside0 (URel w W2 w1.heap.size fi lb tb ls ts fin (pos + 1) (pb ++ eb) u7 (p ++ [b]) l) := ⟨⟨HOWN2.out, HSP2.out, HIT2.out, HB2.out, HRUN.out, hX, by have := HU.lp; rw [List.length_append, List.length_singleton]; omega, by have := HU.ll; omega, by have := HU.lw; omega, hpl⟩⟩
        clear hX
        go_wp2
        go_roundw
        case rel => exact ⟨pos + 1, _, p ++ [b], l, by go_num, HREL.out⟩
        case measure =>
          have h2 := HREL.out.it
          simp only [World.iterPos, h2, HIT.out]
          omega
    · have hnx : ∀ ty, (Instr.next (.pointer (some ⟨w1.heap.size + 1, 0, none⟩)) true ty).run Try.prog wr = _ := fun ty => Lib.run_next_end_at wr (w1.heap.size + 1) lb pos ty hit hp2
      have hrun := HU.run
      rw [List.drop_eq_nil_of_le (by have := HLZ.out; omega)] at hrun
      unfold uparts at hrun
      have hres := HRES.out
      rw [← hrun] at hres
      have hple : p.length ≤ 256 := by have := HU.lp; have := HU.le; omega
      have hlle : l.length ≤ 256 := by have := HU.ll; have := HU.le; omega
      have hlw : jw l ≤ 2304 := by have := HU.lw; have := HU.le; omega
      have hpz : pb.size ≤ 256 := by rw [HU.pl, mkB_size]; exact hple
      have hpd : pb.toList = p := by rw [HU.pl, ByteArray.toList_eq, mkB_data]
      obtain ⟨A, cp, hv, hcp, hC⟩ := Kd.R_reads HU.own
      have hown := HU.own
      rw [List.length_map] at hv hcp hC
      subst hv
      have HOWN := Aside0.mk hown
      have HC := Aside0.mk hC
      have HCP := Aside0.mk hcp
      clear hown hC hcp hit
      by_cases hp : p.isEmpty = true
      · simp only [hp, if_true] at hres
        have hge : pb.toList.isEmpty = true := by rw [hpd]; exact hp
        have hjl : (joinSp l).length ≤ 140737488355328 := by have := joinSp_le l; omega
        have HJ : Aside0 (Calls Try.prog 34 #[.slice A l.length cp, .string (⟨#[32]⟩ : ByteArray)] wr fun e w' => e = .returned (.string (mkB (joinSp l))) ∧ Below wr.heap.size wr w') := by
          have := sjoin_calls _ _ wr HOWN.out (by rw [List.length_map]; omega) (by rw [map_data]; exact hjl)
          rw [map_data, show mkB [32] = (⟨#[32]⟩ : ByteArray) from rfl] at this
          exact ⟨this⟩
        have HRES2 := Aside0.mk hres
        clear hres hp hjl hpd
        go_wp2_with fail
        refine HJ.out.mono ?_
        rintro e w3 ⟨rfl, hbel⟩
        go_wp2
        go_ret2
        rw [HRES2.out]
        exact ⟨rfl, below_then HU.bel HU.bel.size hbel⟩
      · rw [if_neg hp] at hres
        have hpe : p.isEmpty = false := by simpa using hp
        have hge : pb.toList.isEmpty = false := by rw [hpd]; exact hpe
        have hx1 : ((⟨#[91, 45]⟩ : ByteArray) ++ pb) ++ (⟨#[93]⟩ : ByteArray) = mkB ([91, 45] ++ p ++ [93]) := by
          rw [HU.pl, ← mkB_append, ← mkB_append]; rfl
        have hjl : (joinSp (([91, 45] ++ p ++ [93]) :: l)).length ≤ 140737488355328 := by
          have := joinSp_le (([91, 45] ++ p ++ [93]) :: l)
          rw [jw_cons] at this
          simp only [List.length_append, List.length_cons, List.length_nil] at this
          omega
        have HRES2 := Aside0.mk hres
        have HX1 := Aside0.mk hx1
        have HJL := Aside0.mk hjl
        clear hres hp hjl hpd hpe hx1
        go_wp2_with ((with_reducible refine gate_builtin (b := .append) (xs := #[.tmp 43, .tmp 44]) rfl ?_); at_builtin; refine Kd.R_append_rows Kd.string (w0 := w) w.heap.size rfl (.tmp 43) (.tmp 44) 22 9 (.string ⟨#[]⟩) 16 rfl Try.underlying22 info9 rfl (by decide) (by omega) (.slice (some ⟨wr.heap.size, 0, none⟩) 1 1) [((⟨#[91, 45]⟩ : ByteArray) ++ pb) ++ (⟨#[93]⟩ : ByteArray)] (l.map mkB) A l.length cp (fun _ => True) (fun _ => False) rfl rfl (R_single _ wr w.heap.size HU.bel.size) (Kd.C_below HC.out (below_alloc (Below.refl _ _) _)) (fun _ _ h => h) (fun _ h => h.elim) (fun _ _ => trivial) (HU.bel.alloc HU.bel.size _) (HU.bel.alloc HU.bel.size _).size (by simp only [List.length_cons, List.length_nil]; omega) ?_)
        intro v1 w3 ho hbel _ _
        rw [HX1.out] at ho
        obtain ⟨A3, c3, hv3, _, _⟩ := Kd.R_reads ho
        have hl3 : (mkB ([91, 45] ++ p ++ [93]) :: l.map mkB).length = l.length + 1 := by simp
        have HJ : Aside0 (Calls Try.prog 34 #[v1, .string (⟨#[32]⟩ : ByteArray)] w3 fun e w' => e = .returned (.string (mkB (joinSp (([91, 45] ++ p ++ [93]) :: l)))) ∧ Below w3.heap.size w3 w') := by
          have hm : (mkB ([91, 45] ++ p ++ [93]) :: l.map mkB).map (·.data.toList) = ([91, 45] ++ p ++ [93]) :: l := by
            rw [List.map_cons, map_data, mkB_data]
          have := sjoin_calls _ _ w3 ho (by rw [hl3]; omega) (by rw [hm]; exact HJL.out)
          rw [hm, show mkB [32] = (⟨#[32]⟩ : ByteArray) from rfl] at this
          exact ⟨this⟩
        have HB3 := Aside0.mk hbel
        rw [hl3] at hv3
        subst hv3
        clear ho hbel hl3
        go_wp2_with fail
        refine HJ.out.mono ?_
        rintro e w4 ⟨rfl, hbel⟩
        go_wp2
        go_ret2
        rw [HRES2.out]
        exact ⟨rfl, below_then HB3.out HB3.out.size hbel⟩
end Go.Proofs.Ytcmicndmaaaknaa.G
