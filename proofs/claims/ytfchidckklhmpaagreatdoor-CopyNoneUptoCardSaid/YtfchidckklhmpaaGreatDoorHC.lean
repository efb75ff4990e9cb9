/- Texts on getopt.Parse, together. -/
import Derived.Test.YtfchidckklhmpaaGreatDoorHB
import Derived.Deep.RegionLaw
import Derived.Test.YtfchidckklhmpaaGreatDoorG0
import Derived.Deep.Slices
import Derived.SliceStrings
import Derived.ChangeSame
import Derived.Test.YtfchidckklhmpaaGreatDoorRows
import Derived.Test.YtfchidckklhmpaaGreatDoorHA
/- getopt.Parse: arguments fall into options and operands as the plain loop says. -/
namespace Go.Proofs.YtfchidckklhmpaaGreatDoor.G
open Go.RowKit Go.Proofs.YtfchidckklhmpaaGreatDoorW.PrintWords
set_option linter.unusedVariables false
set_option linter.unusedSimpArgs false

section
variable {w0 w w1 : World} {B : Nat} {fi : Bool} {lb tb : ByteArray} {A : Option Addr} {n c : Nat} {ov rv v1 : Value} {args : List ByteArray} {os : List S67} {rs : List ByteArray}
theorem St.pushedR (h : St w0 w B fi lb tb A n c ov rv args os rs) {ys : List ByteArray} (ho : Kd.R Kd.string 9 w1 w0.heap.size (fun _ => True) v1 (rs ++ ys)) (hb : Below w0.heap.size w0 w1) (hg : w.grownBy w1 rv.ownBlock) :
    St w0 (w1.setCell ⟨B, 5, none⟩ v1) B fi lb tb A n c ov v1 args os (rs ++ ys) := by
  have hk := blk_grown h.blk hg (Kd.R_ne h.re h.blk (by decide))
  exact ⟨blk_put hk 5 _ rfl, h.len, h.rd, h.cap, Kd.R_set (Kd.R_over' h.op (Kd.R_typed h.re) (by decide) hg) hk (by decide) 5 _, Kd.R_set ho hk (by decide) 5 _, hb.setCell (p := ⟨B, 5, none⟩) h.base _, h.base⟩
theorem St.pushedR_far (h : St w0 w B fi lb tb A n c ov rv args os rs) (hg : w.grownBy w1 rv.ownBlock) {R : Nat} {cs : Array Value} (hr : w.heap[R]? = some (.cells cs 137 (0, 0))) :
    (w1.setCell ⟨B, 5, none⟩ v1).heap[R]? = some (.cells cs 137 (0, 0)) :=
  blk_far (blk_grown hr hg (Kd.R_ne h.re hr (by decide))) (p := ⟨B, 5, none⟩) (blk_ne hr h.blk (by decide)) _
theorem St.noArgs (h : St w0 w B fi lb tb A n c ov rv args os rs) : St w0 (w.setCell ⟨B, 3, none⟩ (.slice none 0 0)) B fi lb tb none 0 0 ov rv [] os rs :=
  h.setArgs (Kd.C_nil _ _) rfl (Nat.le_refl _)
theorem St.noArgs_far (h : St w0 w B fi lb tb A n c ov rv args os rs) {R : Nat} {cs : Array Value} (hr : w.heap[R]? = some (.cells cs 137 (0, 0))) :
    (w.setCell ⟨B, 3, none⟩ (.slice none 0 0)).heap[R]? = some (.cells cs 137 (0, 0)) :=
  blk_far hr (p := ⟨B, 3, none⟩) (blk_ne hr h.blk (by decide)) _

theorem St.drew (h : St w0 w B fi lb tb A n c ov rv args os rs) : St w0 w.drew B fi lb tb A n c ov rv args os rs := h.below (Below.refl _ _).drew
end
theorem St.start (w w1 : World) (R : Nat) (fi : Bool) (lb tb : ByteArray) (A : Option Addr) (n c : Nat) (args : List ByteArray) (hl : args.length = n) (hr : Kd.C Kd.string w A n args) (hc : n ≤ c) (hb : Below w.heap.size w w1) (o : Obj) :
    St w ((w1.alloc o).alloc (.cells #[.bool fi, .string lb, .string tb, .slice A n c, .slice none 0 0, .slice none 0 0] 243)) (w1.heap.size + 1) fi lb tb A n c (.slice none 0 0) (.slice none 0 0) args [] [] := by
  have hz : (w1.alloc o).heap.size = w1.heap.size + 1 := World.size_alloc ..
  refine ⟨?_, hl, hr, hc, Kd.R_nil _ _ _ _ _, Kd.R_nil _ _ _ _ _, (hb.alloc hb.size _).alloc (by rw [hz]; have := hb.size; omega) _, by have := hb.size; omega⟩
  rw [← hz]
  exact blk_new _ _

abbrev left (more : Bool) (x : ByteArray) (xs : List ByteArray) : List ByteArray := if more then x :: xs else []

/-- a round's head -/
structure PRel (w0 wr : World) (B R : Nat) (fi : Bool) (lb tb : ByteArray) (ls ts : List UInt8) (r : List S67 × List ByteArray × ByteArray × Bool × Int) (x : ByteArray) (more : Bool) (xs : List ByteArray) (k : Nat) (A : Option Addr) (n c : Nat) (ov rv : Value) (os : List S67) (rs : List ByteArray) : Prop where
  st : St w0 wr B fi lb tb A n c ov rv xs os rs
  res : wr.heap[R]? = some (.cells #[.string ⟨#[]⟩, .bool false] 137 (0, 0))
  rb : w0.heap.size ≤ R
  run : ploop fi ls ts k (left more x xs) os rs = r
  fuel : (left more x xs).length ≤ k
  fin : more = false → xs = []
  cnt : os.length + weight (left more x xs) ≤ 1099511627776
  cnt2 : rs.length + weight (left more x xs) ≤ 1099511627776

def PPost (w0 : World) (r : List S67 × List ByteArray × ByteArray × Bool × Int) (e : Ending) (w' : World) : Prop :=
  ∃ v0_ v1_ : Value, e = .returned (.tuple #[v0_, v1_, .agg #[.string r.2.2.1, .bool r.2.2.2.1], .int .i64 r.2.2.2.2]) ∧ Kd.R k67 143 w' w0.heap.size (fun _ => True) v0_ r.1 ∧ Kd.R Kd.string 9 w' w0.heap.size (fun _ => True) v1_ r.2.1 ∧ Below w0.heap.size w0 w'

theorem weight_cons (x : ByteArray) (xs : List ByteArray) : weight (x :: xs) = x.size + 1 + weight xs := by simp [weight]
theorem weight_nil : weight [] = 0 := rfl
theorem length_le_weight (xs : List ByteArray) : xs.length ≤ weight xs := by
  induction xs with
  | nil => exact Nat.zero_le _
  | cons x xs ih => rw [weight_cons, List.length_cons]; omega
theorem weight_part {ls ts : List UInt8} : ∀ (a : List UInt8) (args : List ByteArray) (os : List S67) {os' : List S67} {args' : List ByteArray}, clus ls ts a args os = .inr (os', args') →
    os'.length + weight args' ≤ os.length + a.length + weight args ∧ args'.length ≤ args.length ∧ weight args' ≤ weight args := by
  intro a
  induction a with
  | nil =>
    intro args os os' args' h
    simp only [clus] at h
    injection h with h
    injection h with h1 h2
    subst h1 h2
    simp
  | cons b r ih =>
    intro args os os' args' h
    unfold clus at h
    by_cases h1 : ls.contains b = false
    · rw [if_pos h1] at h; cases h
    · rw [if_neg h1] at h
      by_cases h2 : ts.contains b = false
      · rw [if_pos h2] at h
        have := ih args _ h
        simp only [List.length_append, List.length_cons, List.length_nil] at this ⊢
        omega
      · rw [if_neg h2] at h
        by_cases h3 : r.isEmpty = false
        · rw [if_pos h3] at h
          injection h with h
          injection h with e1 e2
          subst e1 e2
          simp only [List.length_append, List.length_cons, List.length_nil]
          omega
        · rw [if_neg h3] at h
          cases args with
          | nil => cases h
          | cons x xs =>
            injection h with h
            injection h with e1 e2
            subst e1 e2
            rw [weight_cons]
            simp only [List.length_append, List.length_cons, List.length_nil]
            omega
theorem clus_weight {ls ts : List UInt8} {x : ByteArray} {xs : List ByteArray} {os os' : List S67} {args' : List ByteArray} (h : clus ls ts (x.data.toList.drop 1) xs os = .inr (os', args')) :
    (os'.length + weight args' ≤ os.length + (x.size + 1 + weight xs) ∧ weight args' ≤ weight xs) ∧ args'.length ≤ xs.length := by
  have h1 := weight_part _ _ _ h
  rw [List.length_drop, data_length] at h1
  omega
theorem ploop_nil (fi : Bool) (ls ts : List UInt8) (k : Nat) (os : List S67) (rs : List ByteArray) : ploop fi ls ts k [] os rs = (os, rs, mkB [], false, 0) := by
  cases k <;> rfl

/-- the next argument is asked for: the relation anew -/
theorem PRel.next {w0 W : World} {B R : Nat} {fi : Bool} {lb tb : ByteArray} {ls ts : List UInt8} {r : List S67 × List ByteArray × ByteArray × Bool × Int} {g : Nat} {A : Option Addr} {n c : Nat} {ov rv : Value} {args : List ByteArray} {os : List S67} {rs : List ByteArray}
    (hst : St w0 W B fi lb tb A n c ov rv args os rs) (hres : W.heap[R]? = some (.cells #[.string ⟨#[]⟩, .bool false] 137 (0, 0))) (hR : w0.heap.size ≤ R) (hrun : ploop fi ls ts g args os rs = r) (hfu : args.length ≤ g)
    (hc : os.length + weight args ≤ 1099511627776) (hc2 : rs.length + weight args ≤ 1099511627776) :
    Calls Tryz.prog 178 #[.pointer (some ⟨B, 0, none⟩)] W fun e w' => ∃ (x : ByteArray) (more : Bool) (xs : List ByteArray) (A' : Option Addr) (n' c' : Nat), e = .returned (.tuple #[.string x, .bool more]) ∧ PRel w0 w' B R fi lb tb ls ts r x more xs g A' n' c' ov rv os rs := by
  refine (next_any w0 W B fi lb tb A n c ov rv args os rs hst).mono ?_
  rintro e w' ⟨x, more, xs, A', n', c', rfl, ha, hf, hs, hfar⟩
  have hl : left more x xs = args := ha.symm
  exact ⟨x, more, xs, A', n', c', rfl, hs, (hfar R (blk_ne hres hst.blk (by decide))).trans hres, hR, by rw [hl]; exact hrun, by rw [hl]; exact hfu, hf, by rw [hl]; exact hc, by rw [hl]; exact hc2⟩

set_option maxHeartbeats 8000000 in
set_option maxRecDepth 100000 in
theorem parse_loop_calls (s : ByteArray) (A1 : Option Addr) (c1 : Nat) (l1 : List ByteArray) (w : World) (hr1 : Kd.C Kd.string w A1 l1.length l1) (hc1 : l1.length ≤ c1)
    (hs : s.size ≤ 140737488355328) (fi : Bool) (ls ts : List UInt8) (hspec : specOf s = some (fi, ls, ts)) (hw : weight l1 ≤ 1099511627776) :
    Calls Tryz.prog 84 #[.string s, .slice A1 l1.length c1] w (PPost w (ploop fi ls ts l1.length l1 [] [])) := by
  obtain ⟨r, hr⟩ : ∃ r, r = ploop fi ls ts l1.length l1 [] [] := ⟨_, rfl⟩
  rw [← hr]
  have HR := Lib.hid hr
  have HSP := Lib.hid hspec
  have HR1 := Aside0.mk hr1
  have HC1 := Aside0.mk hc1
  obtain ⟨n1, hn1⟩ : ∃ n1, n1 = l1.length := ⟨_, rfl⟩
  rw [← hn1]
  have HN1 := Lib.hid hn1
  clear hr hspec hr1 hc1 hn1
  have hu53 := Tryz.underlying238
  have hu58 := Tryz.underlying243
  have hu25 := Tryz.underlying137
  go_enter Tryz.func84, Tryz.ntmps84
  go_wp2_with fail
  refine (parse_calls s _ hs).mono ?_
  rintro e w1 ⟨hsp, hb1⟩
  rw [HSP.out] at hsp
  obtain rfl := hsp
  obtain ⟨lb, hlb⟩ : ∃ lb, lb = mkB ls := ⟨_, rfl⟩
  obtain ⟨tb, htb⟩ : ∃ tb, tb = mkB ts := ⟨_, rfl⟩
  rw [← hlb, ← htb]
  have HLB := Lib.hid hlb
  have HTB := Lib.hid htb
  have hbw : Below w.heap.size w w1 := below_step (below_alloc (Below.refl _ _) _) hb1
  have HRES := Aside0.mk (blk_below (blk_new w (.cells #[.string { data := #[] }, .bool false] 137)) hb1)
  have HST := Aside0.mk (St.start w w1 w.heap.size fi lb tb A1 n1 c1 l1 HN1.out.symm (by rw [HN1.out]; exact HR1.out) (by rw [HN1.out]; exact HC1.out) hbw (.cells #[.bool fi, .string lb, .string tb] 238))
  clear hlb htb hb1 hbw
  go_wp2_with fail
  refine (next_any w _ _ _ _ _ _ _ _ _ _ _ _ _ HST.out).mono ?_
  rintro e w2 ⟨x, more, xs, A2, n2, c2, rfl, hargs, hfin, hst2, hfar⟩
  have HARG := Lib.hid hargs
  have HFIN := Lib.hid hfin
  have HST2 := Aside0.mk hst2
  have HRES2 := Aside0.mk ((hfar w.heap.size (by have := HRES.out; have := blk_lt this; omega)).trans (blk_alloc (blk_alloc HRES.out _) _))
  clear hargs hfin hst2 hfar HST HRES
  go_wp2
  go_loopg [12, 13] l1.length (fun gk va vm wr => ∃ (x : ByteArray) (more : Bool) (xs : List ByteArray) (A : Option Addr) (n c : Nat) (ov rv : Value) (os : List S67) (rs : List ByteArray), va = .string x ∧ vm = .bool more ∧ PRel w wr (w1.heap.size + 1) w.heap.size fi lb tb ls ts r x more xs gk A n c ov rv os rs)
  case atStart =>
    have hl : left more x xs = l1 := HARG.out.symm
    exact ⟨x, more, xs, A2, n2, c2, _, _, [], [], rfl, rfl, HST2.out, HRES2.out, Nat.le_refl _, by rw [hl]; exact HR.out.symm, by rw [hl]; exact Nat.le_refl _, HFIN.out, by rw [hl]; simpa using hw, by rw [hl]; simpa using hw⟩
  case round =>
    clear HST2 HRES2 HARG HFIN
    obtain ⟨x, more, xs, A, n, c, ov, rv, os, rs, rfl, rfl, HP⟩ := hrel
    have ca := blk_cell HP.st.blk 3
    have co := blk_cell HP.st.blk 4
    have cr := blk_cell HP.st.blk 5
    have cf := blk_cell HP.st.blk 0
    have fa := blk_frozen HP.st.blk 3
    have fr := blk_frozen HP.st.blk 5
    simp at ca co cr cf
    cases more with
    | false =>
      have hx : xs = [] := HP.fin rfl
      subst hx
      have hrun := HP.run
      rw [show left false x [] = [] from rfl, ploop_nil] at hrun
      have HRUN := Lib.hid hrun
      have cr0 := blk_cell HP.res 0
      have cr1 := blk_cell HP.res 1
      have fr0 := blk_frozen HP.res 0
      have fr1 := blk_frozen HP.res 1
      simp at cr0 cr1
      clear hrun
      go_wp2
      go_region
      go_wp2
      have HE := ((HP.st.elsewhere HP.res HP.rb (.string ⟨#[]⟩) (j := 0)).elsewhere (blk_put HP.res 0 _ rfl) HP.rb (.bool false) (j := 1)).drew
      refine bodyPost_ret (results_list (rs := [.tmp 4, .tmp 5, .cell 6 137, .tmp 7]) rfl (by simp) (.tmp (.tmp (.cell w.heap.size 137 #[.string ⟨#[]⟩, .bool false] (0, 0) _ rfl (blk_drew (CPost.goodBlk HP.res)) Tryz.underlying137 rfl (by kernel_rfl) (.tmp .nil))))) rfl ?_
      rw [← HRUN.out]
      exact ⟨ov, rv, rfl, HE.op, HE.re, HE.bel⟩
    | true =>
      have hfu := HP.fuel
      obtain ⟨g, rfl⟩ : ∃ g, gk = g + 1 := ⟨gk - 1, by have h_ : (left true x xs).length = xs.length + 1 := rfl; omega⟩
      have hrun := HP.run
      have hcn := HP.cnt
      have hcn2 := HP.cnt2
      simp only [left, if_true, List.length_cons] at hrun hfu hcn hcn2
      rw [weight_cons] at hcn hcn2
      unfold ploop at hrun
      have hxn : n ≤ weight xs := by rw [← HP.st.len]; exact length_le_weight xs
      by_cases hda : dashes x = true
      · rw [if_pos hda] at hrun
        have hdt : (x.toList == [45, 45]) = true := by rw [ByteArray.toList_eq]; exact hda
        have HRUN := Lib.hid hrun
        clear hrun hda
        go_wp2
        go_region_law ((refine Kd.R_append_rows_step Kd.string (w0 := w) w.heap.size (by simp [Region.wanted]) (.tmp 78) (.tmp 82) 22 9 (.string ⟨#[]⟩) 16 rfl Tryz.underlying22 info9 rfl (by decide) (by omega) rv rs xs A n c (fun _ => True) (fun _ => False) rfl rfl (Kd.R_drew HP.st.re) (Kd.C_below HP.st.rd HP.st.bel.drew) (fun _ _ h => h) (fun _ h => h.elim) (fun _ _ => trivial) HP.st.bel.drew HP.st.bel.size (by omega) ?_; intro v1 w3 ho hbel hg _; obtain ⟨A3, c3, hv⟩ := Kd.R_slice ho; rw [List.length_append] at hv; subst hv; have hbk := blk_grown HP.st.drew.blk hg (Kd.R_ne HP.st.drew.re HP.st.drew.blk (by decide)); have HQ := Aside0.mk (HP.st.drew.pushedR ho hbel hg); have HF := Aside0.mk (HP.st.drew.pushedR_far hg (blk_drew HP.res) (v1 := .slice A3 (rs.length + xs.length) c3)); have c5 := blk_cell hbk 5; have f5 := blk_frozen hbk 5; simp at c5; clear ho hbel hg hbk))
        all_goals
          have c3 := blk_cell HQ.out.blk 3
          have f3 := blk_frozen HQ.out.blk 3
          simp at c3
          go_wp2_with fail
          refine (PRel.next HQ.out.noArgs (HQ.out.noArgs_far HF.out) HP.rb ((ploop_nil fi ls ts g os (rs ++ xs)).trans HRUN.out) (Nat.zero_le _) (by rw [weight_nil]; omega) (by rw [weight_nil, List.length_append, HP.st.len]; omega)).mono ?_
          rintro e w5 ⟨x', more', xs', A', n', c', rfl, HP'⟩
          go_wp2
          go_roundg g
          case measure => omega
          case rel => exact ⟨x', more', xs', A', n', c', _, _, _, _, rfl, rfl, HP'⟩
      · rw [if_neg hda] at hrun
        have hdt : (x.toList == [45, 45]) = false := by rw [ByteArray.toList_eq]; simpa [dashes] using hda
        clear hda
        by_cases hcl : isClus x = true
        · rw [if_pos hcl] at hrun
          obtain ⟨hx1, hb45⟩ := isClus_true hcl
          have hx : ∀ h : 0 < x.size, ((x[0]'h).toNat : Int) = bt x 0 := bt_at x 0
          obtain ⟨cb, hcb⟩ : ∃ cb, cb = mkB (x.data.toList.drop 1) := ⟨_, rfl⟩
          have hcut : ∀ W : World, (Instr.slice 9 (.string x) (some (.int .i64 1)) none none).run Tryz.prog W = .ok (.string cb) W := fun W => by
            have h0 := run_slice_string_l (P := Tryz.prog) W 9 x Tryz.underlying9 .i64 1 (by omega) (by omega)
            have e : x.extract (1 : Int).toNat x.size = cb := by
              rw [hcb, ← mkB_drop, mkB_toList]; rfl
            rw [e] at h0
            exact h0
          have hxl : (x.data.toList.drop 1).length + 1 = x.size := by rw [List.length_drop, data_length]; omega
          have hst := HP.st
          rw [HLB.out, HTB.out] at hst
          have hcall := cluster_calls w wr (w1.heap.size + 1) fi ls ts A n c ov rv xs os rs hst (x.data.toList.drop 1) (by omega)
          rw [← hcb, ← HLB.out, ← HTB.out] at hcall
          obtain ⟨q, hq⟩ : ∃ q, clus ls ts (x.data.toList.drop 1) xs os = q := ⟨_, rfl⟩
          rw [hq] at hcall hrun
          have HCALL := Aside0.mk hcall
          have HCN := Lib.hid hq
          clear hst hcall hcb hxl hcl hq
          cases q with
          | inl p =>
            obtain ⟨nn, m⟩ := p
            have HRUN : Aside0 ((([] : List S67), ([] : List ByteArray), nn, m, (100 : Int)) = r) := ⟨hrun⟩
            clear hrun
            go_wp2_with fail
            refine HCALL.out.mono ?_
            rintro e w3 ⟨rfl, hbel, hkept⟩
            have HRES := Aside0.mk (blk_alloc (hkept _ _ HP.res) (.cells #[.string nn, .bool m] 137))
            have HBEL := Aside0.mk (hbel.alloc hbel.size (.cells #[.string nn, .bool m] 137))
            have cr0 := blk_cell HRES.out 0
            have cr1 := blk_cell HRES.out 1
            have fr0 := blk_frozen HRES.out 0
            have fr1 := blk_frozen HRES.out 1
            simp at cr0 cr1
            clear hbel hkept
            go_wp2
            go_region
            go_wp2
            refine bodyPost_ret (results_list (rs := [.tmp 4, .tmp 5, .cell 6 137, .tmp 7]) rfl (by simp) (.tmp (.tmp (.cell w.heap.size 137 #[.string nn, .bool m] (0, 0) _ rfl (blk_drew (blk_put (blk_put HRES.out 0 _ rfl) 1 _ rfl)) Tryz.underlying137 rfl (by kernel_rfl) (.tmp .nil))))) rfl ?_
            rw [← HRUN.out]
            exact ⟨_, _, rfl, Kd.R_nil _ _ _ _ _, Kd.R_nil _ _ _ _ _, ((HBEL.out.setCell (p := ⟨w.heap.size, 0, none⟩) (Nat.le_refl _) _).setCell (p := ⟨w.heap.size, 1, none⟩) (Nat.le_refl _) _).drew⟩
          | inr p =>
            obtain ⟨os', args'⟩ := p
            have HRUN : Aside0 (ploop fi ls ts g args' os' rs = r) := ⟨hrun⟩
            clear hrun
            go_wp2_with fail
            refine HCALL.out.mono ?_
            rintro e w3 ⟨rfl, ⟨A3, n3, c3, ov3, rv3, hst3⟩, hkept⟩
            have HRES := Aside0.mk (blk_alloc (hkept _ _ HP.res) (.cells #[.string ⟨#[]⟩, .bool false] 137))
            have HST3 := Aside0.mk (hst3.below (below_alloc (Below.refl _ _) (.cells #[.string ⟨#[]⟩, .bool false] 137)))
            clear hst3 hkept
            have hcw := clus_weight HCN
            have HLE := Lib.hid hcw.2
            have hcw1 := hcw.1
            clear hcw
            go_wp2_with fail
            refine (PRel.next HST3.out HRES.out HP.rb HRUN.out (by have := HLE.out; omega) (by omega) (by omega)).mono ?_
            rintro e w5 ⟨x', more', xs', A', n', c', rfl, HP'⟩
            go_wp2
            go_roundg g
            case measure => omega
            case rel => exact ⟨x', more', xs', A', n', c', _, _, _, _, rfl, rfl, HP'⟩
        · have hcl2 : isClus x = false := by simpa using hcl
          rw [if_neg hcl] at hrun
          have hparts := isClus_false hcl2
          have hx : ∀ h : 0 < x.size, ((x[0]'h).toNat : Int) = bt x 0 := bt_at x 0
          clear hcl hcl2
          cases fi with
          | true =>
            have HRUN : Aside0 ((os, (rs ++ [x]) ++ xs, mkB [], false, (0 : Int)) = r) := ⟨by simpa using hrun⟩
            clear hrun
            rcases hparts with h1 | ⟨h1, h2⟩
            · go_wp2_with ((with_reducible refine gate_builtin (b := .append) (xs := #[.tmp 45, .tmp 47]) rfl ?_); at_builtin; refine Kd.R_append Kd.string (w0 := w) w.heap.size rfl (.tmp 45) (.tmp 47) 22 9 (.string ⟨#[]⟩) 16 rfl Tryz.underlying22 info9 rfl (by decide) (by omega) rv rs x [.string x] (fun _ => True) (fun _ => False) rfl rfl rfl (fun _ hk => hk.elim) (fun _ _ => trivial) HP.st.re HP.st.bel HP.st.bel.size (by omega) ?_)
              intro v1 w3 ho hbel hg _
              obtain ⟨A3, c3, hv⟩ := Kd.R_slice ho
              rw [List.length_append, List.length_singleton] at hv
              subst hv
              have hbk := blk_grown HP.st.blk hg (Kd.R_ne HP.st.re HP.st.blk (by decide))
              have HQ := Aside0.mk (HP.st.pushedR ho hbel hg)
              have HF := Aside0.mk (HP.st.pushedR_far hg HP.res (v1 := .slice A3 (rs.length + 1) c3))
              have k0 := blk_cell HQ.out.blk 0
              have k3 := blk_cell HQ.out.blk 3
              have k5 := blk_cell HQ.out.blk 5
              have g3 := blk_frozen HQ.out.blk 3
              have g5 := blk_frozen HQ.out.blk 5
              have c5 := blk_cell hbk 5
              have f5 := blk_frozen hbk 5
              have c5' := blk_cell hbk 0
              simp at c5 c5' k0 k3 k5
              clear ho hbel hg hbk
              go_wp2_with fail
              generalize w3.setCell ⟨w1.heap.size + 1, 5, none⟩ (.slice A3 (rs.length + 1) c3) = W3 at HQ HF k0 k3 k5 g3 g5 ⊢
              clear c5 f5 c5'
              go_region_law ((refine Kd.R_append_rows_step Kd.string (w0 := w) w.heap.size (by simp [Region.wanted]) (.tmp 60) (.tmp 64) 22 9 (.string ⟨#[]⟩) 16 rfl Tryz.underlying22 info9 rfl (by decide) (by omega) (.slice A3 (rs.length + 1) c3) (rs ++ [x]) xs A n c (fun _ => True) (fun _ => False) rfl rfl (Kd.R_drew HQ.out.re) (Kd.C_below HP.st.rd HQ.out.bel.drew) (fun _ _ h => h) (fun _ h => h.elim) (fun _ _ => trivial) HQ.out.bel.drew HQ.out.bel.size (by simp only [List.length_append, List.length_cons, List.length_nil]; omega) ?_; intro v1 w4 ho hbel hg _; obtain ⟨A4, c4, hv⟩ := Kd.R_slice ho; rw [List.length_append, List.length_append, List.length_singleton] at hv; subst hv; have hbk := blk_grown HQ.out.drew.blk hg (Kd.R_ne HQ.out.drew.re HQ.out.drew.blk (by decide)); have HQ2 := Aside0.mk (HQ.out.drew.pushedR ho hbel hg); have HF2 := Aside0.mk (HQ.out.drew.pushedR_far hg (blk_drew HF.out) (v1 := .slice A4 (rs.length + 1 + xs.length) c4)); have c5 := blk_cell hbk 5; have f5 := blk_frozen hbk 5; simp at c5; clear ho hbel hg hbk))
              all_goals
                have d3 := blk_cell HQ2.out.blk 3
                have e3 := blk_frozen HQ2.out.blk 3
                simp at d3
                go_wp2_with fail
                refine (PRel.next HQ2.out.noArgs (HQ2.out.noArgs_far HF2.out) HP.rb ((ploop_nil true ls ts g os _).trans HRUN.out) (Nat.zero_le _) (by rw [weight_nil]; omega) (by rw [weight_nil, List.length_append, List.length_append, List.length_singleton, HP.st.len]; omega)).mono ?_
                rintro e w5 ⟨x', more', xs', A', n', c', rfl, HP'⟩
                go_wp2
                go_roundg g
                case measure => omega
                case rel => exact ⟨x', more', xs', A', n', c', _, _, _, _, rfl, rfl, HP'⟩
            · go_wp2_with ((with_reducible refine gate_builtin (b := .append) (xs := #[.tmp 45, .tmp 47]) rfl ?_); at_builtin; refine Kd.R_append Kd.string (w0 := w) w.heap.size rfl (.tmp 45) (.tmp 47) 22 9 (.string ⟨#[]⟩) 16 rfl Tryz.underlying22 info9 rfl (by decide) (by omega) rv rs x [.string x] (fun _ => True) (fun _ => False) rfl rfl rfl (fun _ hk => hk.elim) (fun _ _ => trivial) HP.st.re HP.st.bel HP.st.bel.size (by omega) ?_)
              intro v1 w3 ho hbel hg _
              obtain ⟨A3, c3, hv⟩ := Kd.R_slice ho
              rw [List.length_append, List.length_singleton] at hv
              subst hv
              have hbk := blk_grown HP.st.blk hg (Kd.R_ne HP.st.re HP.st.blk (by decide))
              have HQ := Aside0.mk (HP.st.pushedR ho hbel hg)
              have HF := Aside0.mk (HP.st.pushedR_far hg HP.res (v1 := .slice A3 (rs.length + 1) c3))
              have k0 := blk_cell HQ.out.blk 0
              have k3 := blk_cell HQ.out.blk 3
              have k5 := blk_cell HQ.out.blk 5
              have g3 := blk_frozen HQ.out.blk 3
              have g5 := blk_frozen HQ.out.blk 5
              have c5 := blk_cell hbk 5
              have f5 := blk_frozen hbk 5
              have c5' := blk_cell hbk 0
              simp at c5 c5' k0 k3 k5
              clear ho hbel hg hbk
              go_wp2_with fail
              generalize w3.setCell ⟨w1.heap.size + 1, 5, none⟩ (.slice A3 (rs.length + 1) c3) = W3 at HQ HF k0 k3 k5 g3 g5 ⊢
              clear c5 f5 c5'
              go_region_law ((refine Kd.R_append_rows_step Kd.string (w0 := w) w.heap.size (by simp [Region.wanted]) (.tmp 60) (.tmp 64) 22 9 (.string ⟨#[]⟩) 16 rfl Tryz.underlying22 info9 rfl (by decide) (by omega) (.slice A3 (rs.length + 1) c3) (rs ++ [x]) xs A n c (fun _ => True) (fun _ => False) rfl rfl (Kd.R_drew HQ.out.re) (Kd.C_below HP.st.rd HQ.out.bel.drew) (fun _ _ h => h) (fun _ h => h.elim) (fun _ _ => trivial) HQ.out.bel.drew HQ.out.bel.size (by simp only [List.length_append, List.length_cons, List.length_nil]; omega) ?_; intro v1 w4 ho hbel hg _; obtain ⟨A4, c4, hv⟩ := Kd.R_slice ho; rw [List.length_append, List.length_append, List.length_singleton] at hv; subst hv; have hbk := blk_grown HQ.out.drew.blk hg (Kd.R_ne HQ.out.drew.re HQ.out.drew.blk (by decide)); have HQ2 := Aside0.mk (HQ.out.drew.pushedR ho hbel hg); have HF2 := Aside0.mk (HQ.out.drew.pushedR_far hg (blk_drew HF.out) (v1 := .slice A4 (rs.length + 1 + xs.length) c4)); have c5 := blk_cell hbk 5; have f5 := blk_frozen hbk 5; simp at c5; clear ho hbel hg hbk))
              all_goals
                have d3 := blk_cell HQ2.out.blk 3
                have e3 := blk_frozen HQ2.out.blk 3
                simp at d3
                go_wp2_with fail
                refine (PRel.next HQ2.out.noArgs (HQ2.out.noArgs_far HF2.out) HP.rb ((ploop_nil true ls ts g os _).trans HRUN.out) (Nat.zero_le _) (by rw [weight_nil]; omega) (by rw [weight_nil, List.length_append, List.length_append, List.length_singleton, HP.st.len]; omega)).mono ?_
                rintro e w5 ⟨x', more', xs', A', n', c', rfl, HP'⟩
                go_wp2
                go_roundg g
                case measure => omega
                case rel => exact ⟨x', more', xs', A', n', c', _, _, _, _, rfl, rfl, HP'⟩
          | false =>
            have HRUN : Aside0 (ploop false ls ts g xs os (rs ++ [x]) = r) := ⟨by simpa using hrun⟩
            clear hrun
            rcases hparts with h1 | ⟨h1, h2⟩
            · go_wp2_with ((with_reducible refine gate_builtin (b := .append) (xs := #[.tmp 45, .tmp 47]) rfl ?_); at_builtin; refine Kd.R_append Kd.string (w0 := w) w.heap.size rfl (.tmp 45) (.tmp 47) 22 9 (.string ⟨#[]⟩) 16 rfl Tryz.underlying22 info9 rfl (by decide) (by omega) rv rs x [.string x] (fun _ => True) (fun _ => False) rfl rfl rfl (fun _ hk => hk.elim) (fun _ _ => trivial) HP.st.re HP.st.bel HP.st.bel.size (by omega) ?_)
              intro v1 w3 ho hbel hg _
              obtain ⟨A3, c3, hv⟩ := Kd.R_slice ho
              rw [List.length_append, List.length_singleton] at hv
              subst hv
              have hbk := blk_grown HP.st.blk hg (Kd.R_ne HP.st.re HP.st.blk (by decide))
              have HQ := Aside0.mk (HP.st.pushedR ho hbel hg)
              have HF := Aside0.mk (HP.st.pushedR_far hg HP.res (v1 := .slice A3 (rs.length + 1) c3))
              have k0 := blk_cell HQ.out.blk 0
              have k3 := blk_cell HQ.out.blk 3
              have k5 := blk_cell HQ.out.blk 5
              have g3 := blk_frozen HQ.out.blk 3
              have g5 := blk_frozen HQ.out.blk 5
              have c5 := blk_cell hbk 5
              have f5 := blk_frozen hbk 5
              have c5' := blk_cell hbk 0
              simp at c5 c5' k0 k3 k5
              clear ho hbel hg hbk
              go_wp2_with fail
              refine (PRel.next HQ.out HF.out HP.rb HRUN.out (by omega) (by omega) (by rw [List.length_append, List.length_singleton]; omega)).mono ?_
              rintro e w5 ⟨x', more', xs', A', n', c', rfl, HP'⟩
              go_wp2
              go_roundg g
              case measure => omega
              case rel => exact ⟨x', more', xs', A', n', c', _, _, _, _, rfl, rfl, HP'⟩
            · go_wp2_with ((with_reducible refine gate_builtin (b := .append) (xs := #[.tmp 45, .tmp 47]) rfl ?_); at_builtin; refine Kd.R_append Kd.string (w0 := w) w.heap.size rfl (.tmp 45) (.tmp 47) 22 9 (.string ⟨#[]⟩) 16 rfl Tryz.underlying22 info9 rfl (by decide) (by omega) rv rs x [.string x] (fun _ => True) (fun _ => False) rfl rfl rfl (fun _ hk => hk.elim) (fun _ _ => trivial) HP.st.re HP.st.bel HP.st.bel.size (by omega) ?_)
              intro v1 w3 ho hbel hg _
              obtain ⟨A3, c3, hv⟩ := Kd.R_slice ho
              rw [List.length_append, List.length_singleton] at hv
              subst hv
              have hbk := blk_grown HP.st.blk hg (Kd.R_ne HP.st.re HP.st.blk (by decide))
              have HQ := Aside0.mk (HP.st.pushedR ho hbel hg)
              have HF := Aside0.mk (HP.st.pushedR_far hg HP.res (v1 := .slice A3 (rs.length + 1) c3))
              have k0 := blk_cell HQ.out.blk 0
              have k3 := blk_cell HQ.out.blk 3
              have k5 := blk_cell HQ.out.blk 5
              have g3 := blk_frozen HQ.out.blk 3
              have g5 := blk_frozen HQ.out.blk 5
              have c5 := blk_cell hbk 5
              have f5 := blk_frozen hbk 5
              have c5' := blk_cell hbk 0
              simp at c5 c5' k0 k3 k5
              clear ho hbel hg hbk
              go_wp2_with fail
              refine (PRel.next HQ.out HF.out HP.rb HRUN.out (by omega) (by omega) (by rw [List.length_append, List.length_singleton]; omega)).mono ?_
              rintro e w5 ⟨x', more', xs', A', n', c', rfl, HP'⟩
              go_wp2
              go_roundg g
              case measure => omega
              case rel => exact ⟨x', more', xs', A', n', c', _, _, _, _, rfl, rfl, HP'⟩

end Go.Proofs.YtfchidckklhmpaaGreatDoor.G

/- getopt.Parse's contract in the form that its callers ask. -/
namespace Go.Proofs.YtfchidckklhmpaaGreatDoor.G
open Go.RowKit Go.Proofs.YtfchidckklhmpaaGreatDoorW.PrintWords
set_option linter.unusedVariables false
set_option linter.unusedSimpArgs false

set_option maxHeartbeats 2000000 in
set_option maxRecDepth 100000 in
theorem parse_none_calls (s : ByteArray) (A1 : Option Addr) (n1 c1 : Nat) (w : World) (hs : s.size ≤ 140737488355328) (hspec : specOf s = none) :
    Calls Tryz.prog 84 #[.string s, .slice A1 n1 c1] w (PPost w ([], [], mkB [], false, 22)) := by
  have HSP := Lib.hid hspec
  clear hspec
  have hu53 := Tryz.underlying238
  have hu25 := Tryz.underlying137
  go_enter Tryz.func84, Tryz.ntmps84
  go_wp2_with fail
  refine (parse_calls s _ hs).mono ?_
  rintro e w1 ⟨hsp, hb1⟩
  rw [HSP.out] at hsp
  obtain rfl := hsp
  have HRES := Aside0.mk (blk_below (blk_new w (.cells #[.string { data := #[] }, .bool false] 137)) hb1)
  have hbw : Below w.heap.size w w1 := below_step (below_alloc (Below.refl _ _) _) hb1
  have HB := Aside0.mk hbw
  have HRES2 := Aside0.mk (blk_alloc HRES.out (.cells #[.bool false, .string (mkB []), .string (mkB [])] 238))
  have cr0 := blk_cell HRES2.out 0
  have cr1 := blk_cell HRES2.out 1
  have fr0 := blk_frozen HRES2.out 0
  have fr1 := blk_frozen HRES2.out 1
  simp at cr0 cr1
  clear hb1 hbw
  go_wp2
  refine bodyPost_ret (results_list (rs := [.tmp 4, .tmp 5, .cell 6 137, .tmp 7]) rfl (by simp) (.tmp (.tmp (.cell w.heap.size 137 #[.string ⟨#[]⟩, .bool false] (0, 0) _ rfl (CPost.goodBlk HRES2.out) Tryz.underlying137 rfl (by kernel_rfl) (.tmp .nil))))) rfl ?_
  exact ⟨_, _, rfl, Kd.R_nil _ _ _ _ _, Kd.R_nil _ _ _ _ _, ((HB.out.alloc HB.out.size _).setCell (p := ⟨w.heap.size, 0, none⟩) (Nat.le_refl _) _).setCell (p := ⟨w.heap.size, 1, none⟩) (Nat.le_refl _) _⟩

theorem getopt_Parse.calls (a0 : ByteArray) (A1 : Option Addr) (c1 : Nat) (l1 : List ByteArray) (r1 : List (S67)) (r2 : List ByteArray) (r3 : ByteArray) (r4 : Bool) (r5 : Int) (w : World) (hr1 : Kd.C Kd.string w A1 l1.length l1) (hc1 : l1.length ≤ c1) (h : getopt_Parse.f a0 l1 = some (r1, r2, r3, r4, r5)) :
    Calls Tryz.prog 84 #[.string a0, .slice A1 l1.length c1] w fun e w' => ∃ v0_ v1_ : Value, e = .returned (.tuple #[v0_, v1_, .agg #[.string r3, .bool r4], .int .i64 r5]) ∧ Kd.R k67 143 w' w.heap.size (fun _ => True) v0_ r1 ∧ Kd.R Kd.string 9 w' w.heap.size (fun _ => True) v1_ r2 ∧ Below w.heap.size w w' := by
  unfold getopt_Parse.f at h
  by_cases hw : weight l1 ≤ 1099511627776 ∧ a0.size ≤ 140737488355328
  · rw [if_pos hw] at h
    cases hsp : specOf a0 with
    | none =>
      rw [hsp] at h
      injection h with h
      injection h with h1 h
      injection h with h2 h
      injection h with h3 h
      injection h with h4 h5
      subst h1 h2 h3 h4 h5
      exact parse_none_calls a0 A1 l1.length c1 w hw.2 hsp
    | some p =>
      obtain ⟨fi, ls, ts⟩ := p
      rw [hsp] at h
      injection h with h
      have := parse_loop_calls a0 A1 c1 l1 w hr1 hc1 hw.2 fi ls ts hsp hw.1
      rw [h] at this
      exact this
  · rw [if_neg hw] at h
    cases h

end Go.Proofs.YtfchidckklhmpaaGreatDoor.G

/- An argument that is a list of options or of texts, as it reads and as the walks ask it. -/
namespace Go.Proofs.YtfchidckklhmpaaGreatDoor.G
open Go.RowKit Go.Proofs.YtfchidckklhmpaaGreatDoorW.PrintWords
set_option linter.unusedVariables false
set_option linter.unusedSimpArgs false
open Go.Deep (open_slice)

def strD {H : Type} (s : ByteArray) : DataW H := .lit (.string s.data.toList)
def optD {H : Type} (o : S67) : DataW H := .agg [strD o.f0, strD o.f1]

theorem cells67 : Tryz.prog.cellsOf 143 = 2 := by kernel_rfl
theorem cells9 : Tryz.prog.cellsOf 9 = 1 := by kernel_rfl

set_option maxRecDepth 100000 in
theorem open_opt {H : Type} {enc : TypeId × Value → H} {w : World} {base : Nat} {spare : Nat → Bool} {held : Bool} {fuel : Nat} {cs : List Value} {x : DataW H × List MemPlace}
    (h : DataW.trod enc Tryz.prog w base spare held fuel 143 cs = some x) : ∃ o : S67, cs = [.string o.f0, .string o.f1] ∧ x = (optD o, []) := by
  obtain ⟨y0, y1, n, rfl, hl, h0, h1⟩ := ChangeShapes.trod_struct2 Tryz.underlying143 h
  rw [cells67] at hl
  match cs, hl with
  | [c0, c1], _ =>
    rw [show Tryz.prog.cellsOf 9 = 1 from cells9] at h0 h1
    obtain ⟨s0, e0, rfl, _⟩ := DataW.trod_string Tryz.underlying9 h0
    obtain ⟨s1, e1, rfl, _⟩ := DataW.trod_string Tryz.underlying9 h1
    simp at e0 e1
    subst e0 e1
    exact ⟨⟨s0, s1⟩, rfl, rfl⟩

set_option maxRecDepth 100000 in
theorem open_opts {H : Type} {enc : TypeId × Value → H} {w : World} {base : Nat} {spare : Nat → Bool} {held : Bool} {a : Option Addr} {len cap : Nat} {d : DataW H} {ps : List MemPlace}
    (h : DataW.Trod enc Tryz.prog w base spare held 81 (.slice a len cap) d ps) :
    ∃ l : List S67, l.length = len ∧ len ≤ cap ∧ Kd.C k67 w a len l ∧ ((d = .nil ∧ l = []) ∨ ∃ sp, d = .slice (l.map optD) sp) := by
  obtain ⟨fuel, hf⟩ := h
  rcases open_slice Tryz.underlying81 hf with ⟨hcs, hx⟩ | ⟨ad, len', cap', m, n, D, Pl, hcs, _, hlc, hm, hmm, hx, hel⟩
  · simp [Value.cells] at hcs
    obtain ⟨rfl, rfl, rfl⟩ := hcs
    injection hx with hx _
    exact ⟨[], rfl, Nat.le_refl _, Kd.C_nil _ _, .inl ⟨hx, rfl⟩⟩
  · simp [Value.cells] at hcs
    obtain ⟨rfl, rfl, rfl⟩ := hcs
    have hlm : len ≤ m := by rw [hmm]; split <;> omega
    have each : ∀ i, i < len → ∃ o : S67, D i = optD o ∧ ∀ j u, [Value.string o.f0, Value.string o.f1][j]? = some u → w.cell? (ad.add (i * 2 + j)) = some u := by
      intro i hi
      obtain ⟨cs', hc, ht⟩ := hel i (by omega)
      rw [cells67] at hc
      obtain ⟨o, rfl, ho⟩ := open_opt ht
      injection ho with ho _
      obtain ⟨_, _, hc2⟩ := World.cells?_some hc
      refine ⟨o, ho, fun j u hj => ?_⟩
      have hj2 : j < 2 := by
        have := (List.getElem?_eq_some_iff.1 hj).1
        simpa using this
      rw [← Addr.add_add]
      exact (hc2 j hj2).trans hj
    obtain ⟨f, hfD⟩ : ∃ f : Nat → S67, ∀ i, i < len → D i = optD (f i) ∧ ∀ j u, [Value.string (f i).f0, Value.string (f i).f1][j]? = some u → w.cell? (ad.add (i * 2 + j)) = some u :=
      ⟨fun i => if hi : i < len then Classical.choose (each i hi) else z67, fun i hi => by
        simp only [dif_pos hi]
        exact Classical.choose_spec (each i hi)⟩
    refine ⟨(List.range len).map f, by simp, hlc, ⟨by simp, by unfold maxLen at hm; omega, fun _ => ⟨ad, rfl, fun j p hj => ?_⟩⟩, .inr ⟨(List.range (m - len)).map (fun j => D (len + j)), ?_⟩⟩
    · rw [List.getElem?_map] at hj
      obtain ⟨i, hi, rfl⟩ := Option.map_eq_some_iff.1 hj
      obtain ⟨hlt, hi2⟩ := List.getElem?_eq_some_iff.1 hi
      rw [List.getElem_range] at hi2
      subst hi2
      rw [List.length_range] at hlt
      exact ⟨_, rfl, k67_mk w (f j), (hfD j hlt).2⟩
    · injection hx with hx _
      rw [hx, List.map_map]
      congr 1
      refine List.map_congr_left fun i hi => ?_
      exact (hfD i (List.mem_range.1 hi)).1

set_option maxRecDepth 100000 in
theorem open_texts {H : Type} {enc : TypeId × Value → H} {w : World} {base : Nat} {spare : Nat → Bool} {held : Bool} {a : Option Addr} {len cap : Nat} {d : DataW H} {ps : List MemPlace}
    (h : DataW.Trod enc Tryz.prog w base spare held 22 (.slice a len cap) d ps) :
    ∃ l : List ByteArray, l.length = len ∧ len ≤ cap ∧ Kd.C Kd.string w a len l ∧ ((d = .nil ∧ l = []) ∨ ∃ sp, d = .slice (l.map strD) sp) := by
  obtain ⟨fuel, hf⟩ := h
  rcases ChangeShapes.open_strings Tryz.underlying22 Tryz.underlying9 cells9 hf with ⟨hcs, hx⟩ | ⟨ad, len', cap', ss, hcs, _, hlc, hm, hss, hx, hcell, _⟩
  · simp [Value.cells] at hcs
    obtain ⟨rfl, rfl, rfl⟩ := hcs
    injection hx with hx _
    exact ⟨[], rfl, Nat.le_refl _, Kd.C_nil _ _, .inl ⟨hx, rfl⟩⟩
  · simp [Value.cells] at hcs
    obtain ⟨rfl, rfl, rfl⟩ := hcs
    have hlm : len ≤ ss.length := by rw [hss]; split <;> omega
    have hl : (ss.take len).length = len := by rw [List.length_take]; omega
    refine ⟨ss.take len, hl, hlc, Kd.C_of_reads (d := ByteArray.empty) (h1 := fun _ => rfl) ⟨hl, by unfold maxLen at hm; omega, fun _ => ⟨ad, rfl, fun j hj => ?_⟩⟩, .inr ⟨ChangeShapes.strs (ss.drop len), ?_⟩⟩
    · rw [hcell j (by omega)]
      congr 2
      simp only [List.getD]
      rw [List.getElem?_take, if_pos hj]
    · injection hx with hx _

end Go.Proofs.YtfchidckklhmpaaGreatDoor.G

/- What the statements' bound gives: began as the seat's own starting text on bulk; texts and options added. -/
namespace Go.Proofs.YtfchidckklhmpaaGreatDoor.bulks

theorem one_le {H : Type} (d : DataW H) : 1 ≤ Rows.uptoBulk d := by
  cases d with
  | lit l => cases l <;> simp [Rows.uptoBulk]
  | nil => simp [Rows.uptoBulk]
  | ptr d => simp [Rows.uptoBulk]
  | slice elems spare => simp [Rows.uptoBulk]
  | agg parts => simp [Rows.uptoBulk]
  | iface t d => simp [Rows.uptoBulk]
  | map entries => simp [Rows.uptoBulk]
  | held h => simp [Rows.uptoBulk]

/-- a part's bulk is at most the whole's -/
theorem part_le {H : Type} {d : DataW H} {l : List (DataW H)} (h : d ∈ l) : Rows.uptoBulk d ≤ Rows.uptoBulkAll l := by
  induction l with
  | nil => cases h
  | cons x r ih =>
    simp only [Rows.uptoBulkAll]
    cases List.mem_cons.1 h with
    | inl e => subst e; omega
    | inr e => have := ih e; omega

theorem append {H : Type} (l r : List (DataW H)) : Rows.uptoBulkAll (l ++ r) = Rows.uptoBulkAll l + Rows.uptoBulkAll r := by
  induction l with
  | nil => simp [Rows.uptoBulkAll]
  | cons x l ih => simp only [List.cons_append, Rows.uptoBulkAll, ih]; omega

/-- so many values at the most -/
theorem length_le {H : Type} (l : List (DataW H)) : l.length ≤ Rows.uptoBulkAll l := by
  induction l with
  | nil => simp [Rows.uptoBulkAll]
  | cons x r ih => have := one_le x; simp only [Rows.uptoBulkAll, List.length_cons]; omega

/-- a slice's places, and what they hold -/
theorem slice_le {H : Type} (elems spare : List (DataW H)) : elems.length + spare.length + 1 ≤ Rows.uptoBulk (.slice elems spare) := by
  have h1 := length_le elems
  have h2 := length_le spare
  simp only [Rows.uptoBulk]
  omega
theorem slice_elems {H : Type} (elems spare : List (DataW H)) : Rows.uptoBulkAll elems + 1 ≤ Rows.uptoBulk (.slice elems spare) := by
  simp only [Rows.uptoBulk]
  omega

/-- a string's letters -/
theorem string_eq {H : Type} (bytes : List UInt8) : Rows.uptoBulk (DataW.lit (H := H) (.string bytes)) = bytes.length + 1 := by
  simp [Rows.uptoBulk]

/-- THE BOUND, as the builder hands it over ('hk') -/
theorem bound {H : Type} {l : List (DataW H)} (hk : Rows.uptoSmall H l = true) : Rows.uptoBulkAll l ≤ 1048576 := by
  simpa [Rows.uptoSmall] using hk

/-- ROOM: a slice of n elements of b bytes, grown by append: below the 2^48 bytes that append, make and a Builder bear. Here n up to 2^21, b up to 4,096: put your own numbers. -/
theorem room {n b : Nat} (hn : n ≤ 2097152) (hb : b ≤ 4096) : (n + n / 4 + 192) * b ≤ 281474976710656 := by
  have h : (n + n / 4 + 192) * b ≤ 2621632 * 4096 := Nat.mul_le_mul (by omega) hb
  omega

/-- a list of texts: its weight -/
theorem texts_all {H : Type} (l : List ByteArray) : Rows.uptoBulkAll (l.map (G.strD (H := H))) = G.weight l := by
  induction l with
  | nil => rfl
  | cons x l ih =>
    have h1 : G.weight (x :: l) = x.size + 1 + G.weight l := by simp [G.weight]
    have h2 : x.data.toList.length = x.size := Array.length_toList
    rw [List.map_cons, h1, ← ih]
    simp only [Rows.uptoBulkAll, G.strD, Rows.uptoBulk, h2]
theorem texts {H : Type} {d : DataW H} {l : List ByteArray} (h : (d = .nil ∧ l = []) ∨ ∃ sp, d = .slice (l.map G.strD) sp) : G.weight l ≤ Rows.uptoBulk d := by
  rcases h with ⟨rfl, rfl⟩ | ⟨sp, rfl⟩
  · exact Nat.zero_le _
  · have := slice_elems (l.map (G.strD (H := H))) sp
    rw [texts_all] at this
    omega

end Go.Proofs.YtfchidckklhmpaaGreatDoor.bulks
