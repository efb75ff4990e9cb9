/- getopt.Parse: arguments fall into options and operands as the plain loop says. -/
import Derived.Test.YtcmicndmaaaknaaHParse0
import Derived.Test.YtcmicndmaaaknaaHClus
import Derived.Deep.RegionLaw
namespace Go.Proofs.Ytcmicndmaaaknaa.G
open Go.RowKit Go.Proofs.YtcmicndmaaaknaaW.PrintWords
set_option linter.unusedVariables false
set_option linter.unusedSimpArgs false

section
variable {w0 w w1 : World} {B : Nat} {fi : Bool} {lb tb : ByteArray} {A : Option Addr} {n c : Nat} {ov rv v1 : Value} {args : List ByteArray} {os : List S67} {rs : List ByteArray}
theorem St.pushedR (h : St w0 w B fi lb tb A n c ov rv args os rs) {ys : List ByteArray} (ho : Kd.R Kd.string 9 w1 w0.heap.size (fun _ => True) v1 (rs ++ ys)) (hb : Below w0.heap.size w0 w1) (hg : w.grownBy w1 rv.ownBlock) :
    St w0 (w1.setCell ⟨B, 5, none⟩ v1) B fi lb tb A n c ov v1 args os (rs ++ ys) := by
  have hk := blk_grown h.blk hg (Kd.R_ne h.re h.blk (by decide))
  exact ⟨blk_put hk 5 _ rfl, h.len, h.rd, h.cap, Kd.R_set (Kd.R_over' h.op (Kd.R_typed h.re) (by decide) hg) hk (by decide) 5 _, Kd.R_set ho hk (by decide) 5 _, hb.setCell (p := ⟨B, 5, none⟩) h.base _, h.base⟩
theorem St.pushedR_far (h : St w0 w B fi lb tb A n c ov rv args os rs) (hg : w.grownBy w1 rv.ownBlock) {R : Nat} {cs : Array Value} (hr : w.heap[R]? = some (.cells cs 25 (0, 0))) :
    (w1.setCell ⟨B, 5, none⟩ v1).heap[R]? = some (.cells cs 25 (0, 0)) :=
  blk_far (blk_grown hr hg (Kd.R_ne h.re hr (by decide))) (p := ⟨B, 5, none⟩) (blk_ne hr h.blk (by decide)) _
theorem St.noArgs (h : St w0 w B fi lb tb A n c ov rv args os rs) : St w0 (w.setCell ⟨B, 3, none⟩ (.slice none 0 0)) B fi lb tb none 0 0 ov rv [] os rs :=
  h.setArgs (Kd.C_nil _ _) rfl (Nat.le_refl _)
theorem St.noArgs_far (h : St w0 w B fi lb tb A n c ov rv args os rs) {R : Nat} {cs : Array Value} (hr : w.heap[R]? = some (.cells cs 25 (0, 0))) :
    (w.setCell ⟨B, 3, none⟩ (.slice none 0 0)).heap[R]? = some (.cells cs 25 (0, 0)) :=
  blk_far hr (p := ⟨B, 3, none⟩) (blk_ne hr h.blk (by decide)) _

theorem St.drew (h : St w0 w B fi lb tb A n c ov rv args os rs) : St w0 w.drew B fi lb tb A n c ov rv args os rs := h.below (Below.refl _ _).drew
end
theorem St.start (w w1 : World) (R : Nat) (fi : Bool) (lb tb : ByteArray) (A : Option Addr) (n c : Nat) (args : List ByteArray) (hl : args.length = n) (hr : Kd.C Kd.string w A n args) (hc : n ≤ c) (hb : Below w.heap.size w w1) (o : Obj) :
    St w ((w1.alloc o).alloc (.cells #[.bool fi, .string lb, .string tb, .slice A n c, .slice none 0 0, .slice none 0 0] 58)) (w1.heap.size + 1) fi lb tb A n c (.slice none 0 0) (.slice none 0 0) args [] [] := by
  have hz : (w1.alloc o).heap.size = w1.heap.size + 1 := World.size_alloc ..
  refine ⟨?_, hl, hr, hc, Kd.R_nil _ _ _ _ _, Kd.R_nil _ _ _ _ _, (hb.alloc hb.size _).alloc (by rw [hz]; have := hb.size; omega) _, by have := hb.size; omega⟩
  rw [← hz]
  exact blk_new _ _

abbrev left (more : Bool) (x : ByteArray) (xs : List ByteArray) : List ByteArray := if more then x :: xs else []

/-- a round's head -/
structure PRel (w0 wr : World) (B R : Nat) (fi : Bool) (lb tb : ByteArray) (ls ts : List UInt8) (r : List S67 × List ByteArray × ByteArray × Bool × Int) (x : ByteArray) (more : Bool) (xs : List ByteArray) (k : Nat) (A : Option Addr) (n c : Nat) (ov rv : Value) (os : List S67) (rs : List ByteArray) : Prop where
  st : St w0 wr B fi lb tb A n c ov rv xs os rs
  res : wr.heap[R]? = some (.cells #[.string ⟨#[]⟩, .bool false] 25 (0, 0))
  rb : w0.heap.size ≤ R
  run : ploop fi ls ts k (left more x xs) os rs = r
  fuel : (left more x xs).length ≤ k
  fin : more = false → xs = []
  cnt : os.length + weight (left more x xs) ≤ 1099511627776
  cnt2 : rs.length + weight (left more x xs) ≤ 1099511627776

def PPost (w0 : World) (r : List S67 × List ByteArray × ByteArray × Bool × Int) (e : Ending) (w' : World) : Prop :=
  ∃ v0_ v1_ : Value, e = .returned (.tuple #[v0_, v1_, .agg #[.string r.2.2.1, .bool r.2.2.2.1], .int .i64 r.2.2.2.2]) ∧ Kd.R k67 67 w' w0.heap.size (fun _ => True) v0_ r.1 ∧ Kd.R Kd.string 9 w' w0.heap.size (fun _ => True) v1_ r.2.1 ∧ Below w0.heap.size w0 w'

theorem weight_cons (x : ByteArray) (xs : List ByteArray) : weight (x :: xs) = x.size + 1 + weight xs := by simp [weight]
theorem weight_nil : weight [] = 0 := rfl
theorem length_le_weight (xs : List ByteArray) : xs.length ≤ weight xs := by
  induction xs with
  | nil => exact Nat.zero_le _
  | cons x xs ih => rw [weight_cons, List.length_cons]; omega
theorem weight_part {ls ts : List UInt8} : ∀ (a : List UInt8) (args : List ByteArray) (os : List S67) {os' : List S67} {args' : List ByteArray}, clus ls ts a args os = .inr (os', args') →
    os'.length + weight args' ≤ os.length + a.length + weight args ∧ args'.length ≤ args.length ∧ weight args' ≤ weight args := by
  intro a
  induction a with
  | nil =>
    intro args os os' args' h
    simp only [clus] at h
    injection h with h
    injection h with h1 h2
    subst h1 h2
    simp
  | cons b r ih =>
    intro args os os' args' h
    unfold clus at h
    by_cases h1 : ls.contains b = false
    · rw [if_pos h1] at h; cases h
    · rw [if_neg h1] at h
      by_cases h2 : ts.contains b = false
      · rw [if_pos h2] at h
        have := ih args _ h
        simp only [List.length_append, List.length_cons, List.length_nil] at this ⊢
        omega
      · rw [if_neg h2] at h
        by_cases h3 : r.isEmpty = false
        · rw [if_pos h3] at h
          injection h with h
          injection h with e1 e2
          subst e1 e2
          simp only [List.length_append, List.length_cons, List.length_nil]
          omega
        · rw [if_neg h3] at h
          cases args with
          | nil => cases h
          | cons x xs =>
            injection h with h
            injection h with e1 e2
            subst e1 e2
            rw [weight_cons]
            simp only [List.length_append, List.length_cons, List.length_nil]
            omega
theorem clus_weight {ls ts : List UInt8} {x : ByteArray} {xs : List ByteArray} {os os' : List S67} {args' : List ByteArray} (h : clus ls ts (x.data.toList.drop 1) xs os = .inr (os', args')) :
    (os'.length + weight args' ≤ os.length + (x.size + 1 + weight xs) ∧ weight args' ≤ weight xs) ∧ args'.length ≤ xs.length := by
  have h1 := weight_part _ _ _ h
  rw [List.length_drop, data_length] at h1
  omega
theorem ploop_nil (fi : Bool) (ls ts : List UInt8) (k : Nat) (os : List S67) (rs : List ByteArray) : ploop fi ls ts k [] os rs = (os, rs, mkB [], false, 0) := by
  cases k <;> rfl

/-- the next argument is asked for: the relation anew -/
theorem PRel.next {w0 W : World} {B R : Nat} {fi : Bool} {lb tb : ByteArray} {ls ts : List UInt8} {r : List S67 × List ByteArray × ByteArray × Bool × Int} {g : Nat} {A : Option Addr} {n c : Nat} {ov rv : Value} {args : List ByteArray} {os : List S67} {rs : List ByteArray}
    (hst : St w0 W B fi lb tb A n c ov rv args os rs) (hres : W.heap[R]? = some (.cells #[.string ⟨#[]⟩, .bool false] 25 (0, 0))) (hR : w0.heap.size ≤ R) (hrun : ploop fi ls ts g args os rs = r) (hfu : args.length ≤ g)
    (hc : os.length + weight args ≤ 1099511627776) (hc2 : rs.length + weight args ≤ 1099511627776) :
    Calls Try.prog 27 #[.pointer (some ⟨B, 0, none⟩)] W fun e w' => ∃ (x : ByteArray) (more : Bool) (xs : List ByteArray) (A' : Option Addr) (n' c' : Nat), e = .returned (.tuple #[.string x, .bool more]) ∧ PRel w0 w' B R fi lb tb ls ts r x more xs g A' n' c' ov rv os rs := by
  refine (next_any w0 W B fi lb tb A n c ov rv args os rs hst).mono ?_
  rintro e w' ⟨x, more, xs, A', n', c', rfl, ha, hf, hs, hfar⟩
  have hl : left more x xs = args := ha.symm
  exact ⟨x, more, xs, A', n', c', rfl, hs, (hfar R (blk_ne hres hst.blk (by decide))).trans hres, hR, by rw [hl]; exact hrun, by rw [hl]; exact hfu, hf, by rw [hl]; exact hc, by rw [hl]; exact hc2⟩

set_option maxHeartbeats 8000000 in
set_option maxRecDepth 100000 in
theorem parse_loop_calls (s : ByteArray) (A1 : Option Addr) (c1 : Nat) (l1 : List ByteArray) (w : World) (hr1 : Kd.C Kd.string w A1 l1.length l1) (hc1 : l1.length ≤ c1)
    (hs : s.size ≤ 140737488355328) (fi : Bool) (ls ts : List UInt8) (hspec : specOf s = some (fi, ls, ts)) (hw : weight l1 ≤ 1099511627776) :
    Calls Try.prog 8 #[.string s, .slice A1 l1.length c1] w (PPost w (ploop fi ls ts l1.length l1 [] [])) := by
  obtain ⟨r, hr⟩ : ∃ r, r = ploop fi ls ts l1.length l1 [] [] := ⟨_, rfl⟩
  rw [← hr]
  have HR := Lib.hid hr
  have HSP := Lib.hid hspec
  have HR1 := Aside0.mk hr1
  have HC1 := Aside0.mk hc1
  obtain ⟨n1, hn1⟩ : ∃ n1, n1 = l1.length := ⟨_, rfl⟩
  rw [← hn1]
  have HN1 := Lib.hid hn1
  clear hr hspec hr1 hc1 hn1
  have hu53 := Try.underlying53
  have hu58 := Try.underlying58
  have hu25 := Try.underlying25
  go_enter Try.func8, Try.ntmps8
  go_wp2_with fail
  refine (parse_calls s _ hs).mono ?_
  rintro e w1 ⟨hsp, hb1⟩
  rw [HSP.out] at hsp
  obtain rfl := hsp
  obtain ⟨lb, hlb⟩ : ∃ lb, lb = mkB ls := ⟨_, rfl⟩
  obtain ⟨tb, htb⟩ : ∃ tb, tb = mkB ts := ⟨_, rfl⟩
  rw [← hlb, ← htb]
  have HLB := Lib.hid hlb
  have HTB := Lib.hid htb
  have hbw : Below w.heap.size w w1 := below_step (below_alloc (Below.refl _ _) _) hb1
  have HRES := Aside0.mk (blk_below (blk_new w (.cells #[.string { data := #[] }, .bool false] 25)) hb1)
  have HST := Aside0.mk (St.start w w1 w.heap.size fi lb tb A1 n1 c1 l1 HN1.out.symm (by rw [HN1.out]; exact HR1.out) (by rw [HN1.out]; exact HC1.out) hbw (.cells #[.bool fi, .string lb, .string tb] 53))
  clear hlb htb hb1 hbw
  go_wp2_with fail
  refine (next_any w _ _ _ _ _ _ _ _ _ _ _ _ _ HST.out).mono ?_
  rintro e w2 ⟨x, more, xs, A2, n2, c2, rfl, hargs, hfin, hst2, hfar⟩
  have HARG := Lib.hid hargs
  have HFIN := Lib.hid hfin
  have HST2 := Aside0.mk hst2
  have HRES2 := Aside0.mk ((hfar w.heap.size (by have := HRES.out; have := blk_lt this; omega)).trans (blk_alloc (blk_alloc HRES.out _) _))
  clear hargs hfin hst2 hfar HST HRES
  go_wp2
  go_loopg [12, 13] l1.length (fun gk va vm wr => ∃ (x : ByteArray) (more : Bool) (xs : List ByteArray) (A : Option Addr) (n c : Nat) (ov rv : Value) (os : List S67) (rs : List ByteArray), va = .string x ∧ vm = .bool more ∧ PRel w wr (w1.heap.size + 1) w.heap.size fi lb tb ls ts r x more xs gk A n c ov rv os rs)
  case atStart =>
    have hl : left more x xs = l1 := HARG.out.symm
    exact ⟨x, more, xs, A2, n2, c2, _, _, [], [], rfl, rfl, HST2.out, HRES2.out, Nat.le_refl _, by rw [hl]; exact HR.out.symm, by rw [hl]; exact Nat.le_refl _, HFIN.out, by rw [hl]; simpa using hw, by rw [hl]; simpa using hw⟩
  case round =>
    clear HST2 HRES2 HARG HFIN
    obtain ⟨x, more, xs, A, n, c, ov, rv, os, rs, rfl, rfl, HP⟩ := hrel
    have ca := blk_cell HP.st.blk 3
    have co := blk_cell HP.st.blk 4
    have cr := blk_cell HP.st.blk 5
    have cf := blk_cell HP.st.blk 0
    have fa := blk_frozen HP.st.blk 3
    have fr := blk_frozen HP.st.blk 5
    simp at ca co cr cf
    cases more with
    | false =>
      have hx : xs = [] := HP.fin rfl
      subst hx
      have hrun := HP.run
      rw [show left false x [] = [] from rfl, ploop_nil] at hrun
      have HRUN := Lib.hid hrun
      have cr0 := blk_cell HP.res 0
      have cr1 := blk_cell HP.res 1
      have fr0 := blk_frozen HP.res 0
      have fr1 := blk_frozen HP.res 1
      simp at cr0 cr1
      clear hrun
      go_wp2
      go_region
      go_wp2
      have HE := ((HP.st.elsewhere HP.res HP.rb (.string ⟨#[]⟩) (j := 0)).elsewhere (blk_put HP.res 0 _ rfl) HP.rb (.bool false) (j := 1)).drew
      refine bodyPost_ret (results_list (rs := [.tmp 4, .tmp 5, .cell 6 25, .tmp 7]) rfl (by simp) (.tmp (.tmp (.cell w.heap.size 25 #[.string ⟨#[]⟩, .bool false] (0, 0) _ rfl (blk_drew (CPost.goodBlk HP.res)) Try.underlying25 rfl (by kernel_rfl) (.tmp .nil))))) rfl ?_
      rw [← HRUN.out]
      exact ⟨ov, rv, rfl, HE.op, HE.re, HE.bel⟩
    | true =>
      have hfu := HP.fuel
      obtain ⟨g, rfl⟩ : ∃ g, gk = g + 1 := ⟨gk - 1, by have h_ : (left true x xs).length = xs.length + 1 := rfl; omega⟩
      have hrun := HP.run
      have hcn := HP.cnt
      have hcn2 := HP.cnt2
      simp only [left, if_true, List.length_cons] at hrun hfu hcn hcn2
      rw [weight_cons] at hcn hcn2
      unfold ploop at hrun
      have hxn : n ≤ weight xs := by rw [← HP.st.len]; exact length_le_weight xs
      by_cases hda : dashes x = true
      · rw [if_pos hda] at hrun
        have hdt : (x.toList == [45, 45]) = true := by rw [ByteArray.toList_eq]; exact hda
        have HRUN := Lib.hid hrun
        clear hrun hda
        go_wp2
        go_region_law ((refine Kd.R_append_rows_step Kd.string (w0 := w) w.heap.size (by simp [Region.wanted]) (.tmp 78) (.tmp 82) 22 9 (.string ⟨#[]⟩) 16 rfl Try.underlying22 info9 rfl (by decide) (by omega) rv rs xs A n c (fun _ => True) (fun _ => False) rfl rfl (Kd.R_drew HP.st.re) (Kd.C_below HP.st.rd HP.st.bel.drew) (fun _ _ h => h) (fun _ h => h.elim) (fun _ _ => trivial) HP.st.bel.drew HP.st.bel.size (by omega) ?_; intro v1 w3 ho hbel hg _; obtain ⟨A3, c3, hv⟩ := Kd.R_slice ho; rw [List.length_append] at hv; subst hv; have hbk := blk_grown HP.st.drew.blk hg (Kd.R_ne HP.st.drew.re HP.st.drew.blk (by decide)); have HQ := Aside0.mk (HP.st.drew.pushedR ho hbel hg); have HF := Aside0.mk (HP.st.drew.pushedR_far hg (blk_drew HP.res) (v1 := .slice A3 (rs.length + xs.length) c3)); have c5 := blk_cell hbk 5; have f5 := blk_frozen hbk 5; simp at c5; clear ho hbel hg hbk))
        all_goals
          have c3 := blk_cell HQ.out.blk 3
          have f3 := blk_frozen HQ.out.blk 3
          simp at c3
          go_wp2_with fail
          refine (PRel.next HQ.out.noArgs (HQ.out.noArgs_far HF.out) HP.rb ((ploop_nil fi ls ts g os (rs ++ xs)).trans HRUN.out) (Nat.zero_le _) (by rw [weight_nil]; omega) (by rw [weight_nil, List.length_append, HP.st.len]; omega)).mono ?_
          rintro e w5 ⟨x', more', xs', A', n', c', rfl, HP'⟩
          go_wp2
          go_roundg g
          case measure => omega
          case rel => exact ⟨x', more', xs', A', n', c', _, _, _, _, rfl, rfl, HP'⟩
      · rw [if_neg hda] at hrun
        have hdt : (x.toList == [45, 45]) = false := by rw [ByteArray.toList_eq]; simpa [dashes] using hda
        clear hda
        by_cases hcl : isClus x = true
        · rw [if_pos hcl] at hrun
          obtain ⟨hx1, hb45⟩ := isClus_true hcl
          have hx : ∀ h : 0 < x.size, ((x[0]'h).toNat : Int) = bt x 0 := bt_at x 0
          obtain ⟨cb, hcb⟩ : ∃ cb, cb = mkB (x.data.toList.drop 1) := ⟨_, rfl⟩
          have hcut : ∀ W : World, (Instr.slice 9 (.string x) (some (.int .i64 1)) none none).run Try.prog W = .ok (.string cb) W := fun W => by
            have h0 := run_slice_string_l (P := Try.prog) W 9 x Try.underlying9 .i64 1 (by omega) (by omega)
            have e : x.extract (1 : Int).toNat x.size = cb := by
              rw [hcb, ← mkB_drop, mkB_toList]; rfl
            rw [e] at h0
            exact h0
          have hxl : (x.data.toList.drop 1).length + 1 = x.size := by rw [List.length_drop, data_length]; omega
          have hst := HP.st
          rw [HLB.out, HTB.out] at hst
          have hcall := cluster_calls w wr (w1.heap.size + 1) fi ls ts A n c ov rv xs os rs hst (x.data.toList.drop 1) (by omega)
          rw [← hcb, ← HLB.out, ← HTB.out] at hcall
          obtain ⟨q, hq⟩ : ∃ q, clus ls ts (x.data.toList.drop 1) xs os = q := ⟨_, rfl⟩
          rw [hq] at hcall hrun
          have HCALL := Aside0.mk hcall
          have HCN := Lib.hid hq
          clear hst hcall hcb hxl hcl hq
          cases q with
          | inl p =>
            obtain ⟨nn, m⟩ := p
            have HRUN : Aside0 ((([] : List S67), ([] : List ByteArray), nn, m, (100 : Int)) = r) := ⟨hrun⟩
            clear hrun
            go_wp2_with fail
            refine HCALL.out.mono ?_
            rintro e w3 ⟨rfl, hbel, hkept⟩
            have HRES := Aside0.mk (blk_alloc (hkept _ _ HP.res) (.cells #[.string nn, .bool m] 25))
            have HBEL := Aside0.mk (hbel.alloc hbel.size (.cells #[.string nn, .bool m] 25))
            have cr0 := blk_cell HRES.out 0
            have cr1 := blk_cell HRES.out 1
            have fr0 := blk_frozen HRES.out 0
            have fr1 := blk_frozen HRES.out 1
            simp at cr0 cr1
            clear hbel hkept
            go_wp2
            go_region
            go_wp2
            refine bodyPost_ret (results_list (rs := [.tmp 4, .tmp 5, .cell 6 25, .tmp 7]) rfl (by simp) (.tmp (.tmp (.cell w.heap.size 25 #[.string nn, .bool m] (0, 0) _ rfl (blk_drew (blk_put (blk_put HRES.out 0 _ rfl) 1 _ rfl)) Try.underlying25 rfl (by kernel_rfl) (.tmp .nil))))) rfl ?_
            rw [← HRUN.out]
            exact ⟨_, _, rfl, Kd.R_nil _ _ _ _ _, Kd.R_nil _ _ _ _ _, ((HBEL.out.setCell (p := ⟨w.heap.size, 0, none⟩) (Nat.le_refl _) _).setCell (p := ⟨w.heap.size, 1, none⟩) (Nat.le_refl _) _).drew⟩
          | inr p =>
            obtain ⟨os', args'⟩ := p
            have HRUN : Aside0 (ploop fi ls ts g args' os' rs = r) := ⟨hrun⟩
            clear hrun
            go_wp2_with fail
            refine HCALL.out.mono ?_
            rintro e w3 ⟨rfl, ⟨A3, n3, c3, ov3, rv3, hst3⟩, hkept⟩
            have HRES := Aside0.mk (blk_alloc (hkept _ _ HP.res) (.cells #[.string ⟨#[]⟩, .bool false] 25))
            have HST3 := Aside0.mk (hst3.below (below_alloc (Below.refl _ _) (.cells #[.string ⟨#[]⟩, .bool false] 25)))
            clear hst3 hkept
            have hcw := clus_weight HCN
            have HLE := Lib.hid hcw.2
            have hcw1 := hcw.1
            clear hcw
            go_wp2_with fail
            refine (PRel.next HST3.out HRES.out HP.rb HRUN.out (by have := HLE.out; omega) (by omega) (by omega)).mono ?_
            rintro e w5 ⟨x', more', xs', A', n', c', rfl, HP'⟩
            go_wp2
            go_roundg g
            case measure => omega
            case rel => exact ⟨x', more', xs', A', n', c', _, _, _, _, rfl, rfl, HP'⟩
        · have hcl2 : isClus x = false := by simpa using hcl
          rw [if_neg hcl] at hrun
          have hparts := isClus_false hcl2
          have hx : ∀ h : 0 < x.size, ((x[0]'h).toNat : Int) = bt x 0 := bt_at x 0
          clear hcl hcl2
          cases fi with
          | true =>
            have HRUN : Aside0 ((os, (rs ++ [x]) ++ xs, mkB [], false, (0 : Int)) = r) := ⟨by simpa using hrun⟩
            clear hrun
            rcases hparts with h1 | ⟨h1, h2⟩
            · go_wp2_with ((with_reducible refine gate_builtin (b := .append) (xs := #[.tmp 45, .tmp 47]) rfl ?_); at_builtin; refine Kd.R_append Kd.string (w0 := w) w.heap.size rfl (.tmp 45) (.tmp 47) 22 9 (.string ⟨#[]⟩) 16 rfl Try.underlying22 info9 rfl (by decide) (by omega) rv rs x [.string x] (fun _ => True) (fun _ => False) rfl rfl rfl (fun _ hk => hk.elim) (fun _ _ => trivial) HP.st.re HP.st.bel HP.st.bel.size (by omega) ?_)
              intro v1 w3 ho hbel hg _
              obtain ⟨A3, c3, hv⟩ := Kd.R_slice ho
              rw [List.length_append, List.length_singleton] at hv
              subst hv
              have hbk := blk_grown HP.st.blk hg (Kd.R_ne HP.st.re HP.st.blk (by decide))
              have HQ := Aside0.mk (HP.st.pushedR ho hbel hg)
              have HF := Aside0.mk (HP.st.pushedR_far hg HP.res (v1 := .slice A3 (rs.length + 1) c3))
              have k0 := blk_cell HQ.out.blk 0
              have k3 := blk_cell HQ.out.blk 3
              have k5 := blk_cell HQ.out.blk 5
              have g3 := blk_frozen HQ.out.blk 3
              have g5 := blk_frozen HQ.out.blk 5
              have c5 := blk_cell hbk 5
              have f5 := blk_frozen hbk 5
              have c5' := blk_cell hbk 0
              simp at c5 c5' k0 k3 k5
              clear ho hbel hg hbk
              go_wp2_with fail
              generalize w3.setCell ⟨w1.heap.size + 1, 5, none⟩ (.slice A3 (rs.length + 1) c3) = W3 at HQ HF k0 k3 k5 g3 g5 ⊢
              clear c5 f5 c5'
              go_region_law ((refine Kd.R_append_rows_step Kd.string (w0 := w) w.heap.size (by simp [Region.wanted]) (.tmp 60) (.tmp 64) 22 9 (.string ⟨#[]⟩) 16 rfl Try.underlying22 info9 rfl (by decide) (by omega) (.slice A3 (rs.length + 1) c3) (rs ++ [x]) xs A n c (fun _ => True) (fun _ => False) rfl rfl (Kd.R_drew HQ.out.re) (Kd.C_below HP.st.rd HQ.out.bel.drew) (fun _ _ h => h) (fun _ h => h.elim) (fun _ _ => trivial) HQ.out.bel.drew HQ.out.bel.size (by simp only [List.length_append, List.length_cons, List.length_nil]; omega) ?_; intro v1 w4 ho hbel hg _; obtain ⟨A4, c4, hv⟩ := Kd.R_slice ho; rw [List.length_append, List.length_append, List.length_singleton] at hv; subst hv; have hbk := blk_grown HQ.out.drew.blk hg (Kd.R_ne HQ.out.drew.re HQ.out.drew.blk (by decide)); have HQ2 := Aside0.mk (HQ.out.drew.pushedR ho hbel hg); have HF2 := Aside0.mk (HQ.out.drew.pushedR_far hg (blk_drew HF.out) (v1 := .slice A4 (rs.length + 1 + xs.length) c4)); have c5 := blk_cell hbk 5; have f5 := blk_frozen hbk 5; simp at c5; clear ho hbel hg hbk))
              all_goals
                have d3 := blk_cell HQ2.out.blk 3
                have e3 := blk_frozen HQ2.out.blk 3
                simp at d3
                go_wp2_with fail
                refine (PRel.next HQ2.out.noArgs (HQ2.out.noArgs_far HF2.out) HP.rb ((ploop_nil true ls ts g os _).trans HRUN.out) (Nat.zero_le _) (by rw [weight_nil]; omega) (by rw [weight_nil, List.length_append, List.length_append, List.length_singleton, HP.st.len]; omega)).mono ?_
                rintro e w5 ⟨x', more', xs', A', n', c', rfl, HP'⟩
                go_wp2
                go_roundg g
                case measure => omega
                case rel => exact ⟨x', more', xs', A', n', c', _, _, _, _, rfl, rfl, HP'⟩
            · go_wp2_with ((with_reducible refine gate_builtin (b := .append) (xs := #[.tmp 45, .tmp 47]) rfl ?_); at_builtin; refine Kd.R_append Kd.string (w0 := w) w.heap.size rfl (.tmp 45) (.tmp 47) 22 9 (.string ⟨#[]⟩) 16 rfl Try.underlying22 info9 rfl (by decide) (by omega) rv rs x [.string x] (fun _ => True) (fun _ => False) rfl rfl rfl (fun _ hk => hk.elim) (fun _ _ => trivial) HP.st.re HP.st.bel HP.st.bel.size (by omega) ?_)
              intro v1 w3 ho hbel hg _
              obtain ⟨A3, c3, hv⟩ := Kd.R_slice ho
              rw [List.length_append, List.length_singleton] at hv
              subst hv
              have hbk := blk_grown HP.st.blk hg (Kd.R_ne HP.st.re HP.st.blk (by decide))
              have HQ := Aside0.mk (HP.st.pushedR ho hbel hg)
              have HF := Aside0.mk (HP.st.pushedR_far hg HP.res (v1 := .slice A3 (rs.length + 1) c3))
              have k0 := blk_cell HQ.out.blk 0
              have k3 := blk_cell HQ.out.blk 3
              have k5 := blk_cell HQ.out.blk 5
              have g3 := blk_frozen HQ.out.blk 3
              have g5 := blk_frozen HQ.out.blk 5
              have c5 := blk_cell hbk 5
              have f5 := blk_frozen hbk 5
              have c5' := blk_cell hbk 0
              simp at c5 c5' k0 k3 k5
              clear ho hbel hg hbk
              go_wp2_with fail
              generalize w3.setCell ⟨w1.heap.size + 1, 5, none⟩ (.slice A3 (rs.length + 1) c3) = W3 at HQ HF k0 k3 k5 g3 g5 ⊢
              clear c5 f5 c5'
              go_region_law ((refine Kd.R_append_rows_step Kd.string (w0 := w) w.heap.size (by simp [Region.wanted]) (.tmp 60) (.tmp 64) 22 9 (.string ⟨#[]⟩) 16 rfl Try.underlying22 info9 rfl (by decide) (by omega) (.slice A3 (rs.length + 1) c3) (rs ++ [x]) xs A n c (fun _ => True) (fun _ => False) rfl rfl (Kd.R_drew HQ.out.re) (Kd.C_below HP.st.rd HQ.out.bel.drew) (fun _ _ h => h) (fun _ h => h.elim) (fun _ _ => trivial) HQ.out.bel.drew HQ.out.bel.size (by simp only [List.length_append, List.length_cons, List.length_nil]; omega) ?_; intro v1 w4 ho hbel hg _; obtain ⟨A4, c4, hv⟩ := Kd.R_slice ho; rw [List.length_append, List.length_append, List.length_singleton] at hv; subst hv; have hbk := blk_grown HQ.out.drew.blk hg (Kd.R_ne HQ.out.drew.re HQ.out.drew.blk (by decide)); have HQ2 := Aside0.mk (HQ.out.drew.pushedR ho hbel hg); have HF2 := Aside0.mk (HQ.out.drew.pushedR_far hg (blk_drew HF.out) (v1 := .slice A4 (rs.length + 1 + xs.length) c4)); have c5 := blk_cell hbk 5; have f5 := blk_frozen hbk 5; simp at c5; clear ho hbel hg hbk))
              all_goals
                have d3 := blk_cell HQ2.out.blk 3
                have e3 := blk_frozen HQ2.out.blk 3
                simp at d3
                go_wp2_with fail
                refine (PRel.next HQ2.out.noArgs (HQ2.out.noArgs_far HF2.out) HP.rb ((ploop_nil true ls ts g os _).trans HRUN.out) (Nat.zero_le _) (by rw [weight_nil]; omega) (by rw [weight_nil, List.length_append, List.length_append, List.length_singleton, HP.st.len]; omega)).mono ?_
                rintro e w5 ⟨x', more', xs', A', n', c', rfl, HP'⟩
                go_wp2
                go_roundg g
                case measure => omega
                case rel => exact ⟨x', more', xs', A', n', c', _, _, _, _, rfl, rfl, HP'⟩
          | false =>
            have HRUN : Aside0 (ploop false ls ts g xs os (rs ++ [x]) = r) := ⟨by simpa using hrun⟩
            clear hrun
            rcases hparts with h1 | ⟨h1, h2⟩
            · go_wp2_with ((with_reducible refine gate_builtin (b := .append) (xs := #[.tmp 45, .tmp 47]) rfl ?_); at_builtin; refine Kd.R_append Kd.string (w0 := w) w.heap.size rfl (.tmp 45) (.tmp 47) 22 9 (.string ⟨#[]⟩) 16 rfl Try.underlying22 info9 rfl (by decide) (by omega) rv rs x [.string x] (fun _ => True) (fun _ => False) rfl rfl rfl (fun _ hk => hk.elim) (fun _ _ => trivial) HP.st.re HP.st.bel HP.st.bel.size (by omega) ?_)
              intro v1 w3 ho hbel hg _
              obtain ⟨A3, c3, hv⟩ := Kd.R_slice ho
              rw [List.length_append, List.length_singleton] at hv
              subst hv
              have hbk := blk_grown HP.st.blk hg (Kd.R_ne HP.st.re HP.st.blk (by decide))
              have HQ := Aside0.mk (HP.st.pushedR ho hbel hg)
              have HF := Aside0.mk (HP.st.pushedR_far hg HP.res (v1 := .slice A3 (rs.length + 1) c3))
              have k0 := blk_cell HQ.out.blk 0
              have k3 := blk_cell HQ.out.blk 3
              have k5 := blk_cell HQ.out.blk 5
              have g3 := blk_frozen HQ.out.blk 3
              have g5 := blk_frozen HQ.out.blk 5
              have c5 := blk_cell hbk 5
              have f5 := blk_frozen hbk 5
              have c5' := blk_cell hbk 0
              simp at c5 c5' k0 k3 k5
              clear ho hbel hg hbk
              go_wp2_with fail
              refine (PRel.next HQ.out HF.out HP.rb HRUN.out (by omega) (by omega) (by rw [List.length_append, List.length_singleton]; omega)).mono ?_
              rintro e w5 ⟨x', more', xs', A', n', c', rfl, HP'⟩
              go_wp2
              go_roundg g
              case measure => omega
              case rel => exact ⟨x', more', xs', A', n', c', _, _, _, _, rfl, rfl, HP'⟩
            · go_wp2_with ((with_reducible refine gate_builtin (b := .append) (xs := #[.tmp 45, .tmp 47]) rfl ?_); at_builtin; refine Kd.R_append Kd.string (w0 := w) w.heap.size rfl (.tmp 45) (.tmp 47) 22 9 (.string ⟨#[]⟩) 16 rfl Try.underlying22 info9 rfl (by decide) (by omega) rv rs x [.string x] (fun _ => True) (fun _ => False) rfl rfl rfl (fun _ hk => hk.elim) (fun _ _ => trivial) HP.st.re HP.st.bel HP.st.bel.size (by omega) ?_)
              intro v1 w3 ho hbel hg _
              obtain ⟨A3, c3, hv⟩ := Kd.R_slice ho
              rw [List.length_append, List.length_singleton] at hv
              subst hv
              have hbk := blk_grown HP.st.blk hg (Kd.R_ne HP.st.re HP.st.blk (by decide))
              have HQ := Aside0.mk (HP.st.pushedR ho hbel hg)
              have HF := Aside0.mk (HP.st.pushedR_far hg HP.res (v1 := .slice A3 (rs.length + 1) c3))
              have k0 := blk_cell HQ.out.blk 0
              have k3 := blk_cell HQ.out.blk 3
              have k5 := blk_cell HQ.out.blk 5
              have g3 := blk_frozen HQ.out.blk 3
              have g5 := blk_frozen HQ.out.blk 5
              have c5 := blk_cell hbk 5
              have f5 := blk_frozen hbk 5
              have c5' := blk_cell hbk 0
              simp at c5 c5' k0 k3 k5
              clear ho hbel hg hbk
              go_wp2_with fail
              refine (PRel.next HQ.out HF.out HP.rb HRUN.out (by omega) (by omega) (by rw [List.length_append, List.length_singleton]; omega)).mono ?_
              rintro e w5 ⟨x', more', xs', A', n', c', rfl, HP'⟩
              go_wp2
              go_roundg g
              case measure => omega
              case rel => exact ⟨x', more', xs', A', n', c', _, _, _, _, rfl, rfl, HP'⟩

end Go.Proofs.Ytcmicndmaaaknaa.G
