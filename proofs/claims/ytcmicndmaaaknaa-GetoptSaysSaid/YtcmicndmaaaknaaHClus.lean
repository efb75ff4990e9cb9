/- getopt's method cluster: the options of one argument, byte by byte. -/
import Derived.Test.YtcmicndmaaaknaaHNext
namespace Go.Proofs.Ytcmicndmaaaknaa.G
open Go.RowKit Go.Proofs.YtcmicndmaaaknaaW.PrintWords
set_option linter.unusedVariables false
set_option linter.unusedSimpArgs false

section
variable {w0 w w1 : World} {B : Nat} {fi : Bool} {lb tb : ByteArray} {A : Option Addr} {n c : Nat} {ov rv v1 : Value} {args : List ByteArray} {os : List S67} {rs : List ByteArray}
theorem St.pushed (h : St w0 w B fi lb tb A n c ov rv args os rs) {p : S67} (ho : Kd.R k67 67 w1 w0.heap.size (fun _ => True) v1 (os ++ [p])) (hb : Below w0.heap.size w0 w1) (hg : w.grownBy w1 ov.ownBlock) :
    St w0 (w1.setCell ⟨B, 4, none⟩ v1) B fi lb tb A n c v1 rv args (os ++ [p]) rs := by
  have hk := blk_grown h.blk hg (Kd.R_ne h.op h.blk (by decide))
  exact ⟨blk_put hk 4 _ rfl, h.len, h.rd, h.cap, Kd.R_set ho hk (by decide) 4 _, Kd.R_set (Kd.R_over' h.re (Kd.R_typed h.op) (by decide) hg) hk (by decide) 4 _, hb.setCell (p := ⟨B, 4, none⟩) h.base _, h.base⟩
/-- another block of another type stays -/
theorem St.pushed_far (h : St w0 w B fi lb tb A n c ov rv args os rs) (hg : w.grownBy w1 ov.ownBlock) {R : Nat} {cs : Array Value} (hr : w.heap[R]? = some (.cells cs 25 (0, 0))) :
    (w1.setCell ⟨B, 4, none⟩ v1).heap[R]? = some (.cells cs 25 (0, 0)) :=
  blk_far (blk_grown hr hg (Kd.R_ne h.op hr (by decide))) (p := ⟨B, 4, none⟩) (blk_ne hr h.blk (by decide)) _
/-- a store into another block of type 25, made in this call -/
theorem St.elsewhere (h : St w0 w B fi lb tb A n c ov rv args os rs) {R j : Nat} {cs : Array Value} (hr : w.heap[R]? = some (.cells cs 25 (0, 0))) (hR : w0.heap.size ≤ R) (u : Value) : St w0 (w.setCell ⟨R, j, none⟩ u) B fi lb tb A n c ov rv args os rs :=
  ⟨blk_far h.blk (p := ⟨R, j, none⟩) (blk_ne h.blk hr (by decide)) _, h.len, h.rd, h.cap, Kd.R_set h.op hr (by decide) j _, Kd.R_set h.re hr (by decide) j _, h.bel.setCell (p := ⟨R, j, none⟩) hR _, h.base⟩
end

/-- what cluster leaves -/
def Kept25 (w w' : World) : Prop := ∀ (k : Nat) (cs : Array Value), w.heap[k]? = some (Obj.cells cs 25 (0, 0)) → w'.heap[k]? = some (Obj.cells cs 25 (0, 0))
theorem Kept25.result {w w' : World} (h : Kept25 w w') (u v : Value) : Kept25 w ((w'.setCell ⟨w.heap.size, 0, none⟩ u).setCell ⟨w.heap.size, 1, none⟩ v) := fun k cs hc => by
  have hlt := blk_lt hc
  exact blk_far (blk_far (h k cs hc) (p := ⟨w.heap.size, 0, none⟩) (by show k ≠ w.heap.size; omega) _) (p := ⟨w.heap.size, 1, none⟩) (by show k ≠ w.heap.size; omega) _
def CPost (w0 w : World) (B : Nat) (fi : Bool) (lb tb : ByteArray) (rs : List ByteArray) (r : (ByteArray × Bool) ⊕ (List S67 × List ByteArray)) (e : Ending) (w' : World) : Prop :=
  match r with
  | .inl (n, m) => e = .returned (.tuple #[.agg #[.string n, .bool m], .int .i64 100]) ∧ Below w0.heap.size w0 w' ∧ Kept25 w w'
  | .inr (os', args') => e = .returned (.tuple #[.agg #[.string (mkB []), .bool false], .int .i64 0]) ∧ (∃ A n c ov rv, St w0 w' B fi lb tb A n c ov rv args' os' rs) ∧ Kept25 w w'

/-- the end of a cluster that is good: the result's cells are written anew -/
theorem CPost.good {w0 w W : World} {B R : Nat} {fi : Bool} {lb tb : ByteArray} {A : Option Addr} {n c : Nat} {ov rv : Value} {args : List ByteArray} {os : List S67} {rs : List ByteArray}
    (h : St w0 W B fi lb tb A n c ov rv args os rs) (hr : W.heap[R]? = some (.cells #[.string ⟨#[]⟩, .bool false] 25 (0, 0))) (hR : w0.heap.size ≤ R) (hk : Kept25 w W) (hw : w.heap.size ≤ R) :
    CPost w0 w B fi lb tb rs (.inr (os, args)) (.returned (.tuple #[.agg #[.string ⟨#[]⟩, .bool false], .int .i64 0])) ((W.setCell ⟨R, 0, none⟩ (.string ⟨#[]⟩)).setCell ⟨R, 1, none⟩ (.bool false)) :=
  ⟨rfl, ⟨_, _, _, _, _, (h.elsewhere hr hR _).elsewhere (blk_put hr 0 _ rfl) hR _⟩, fun k cs hc => by
    have hlt := blk_lt hc
    exact blk_far (blk_far (hk k cs hc) (p := ⟨R, 0, none⟩) (by show k ≠ R; omega) _) (p := ⟨R, 1, none⟩) (by show k ≠ R; omega) _⟩
theorem CPost.goodBlk {W : World} {R : Nat} (hr : W.heap[R]? = some (.cells #[.string ⟨#[]⟩, .bool false] 25 (0, 0))) :
    ((W.setCell ⟨R, 0, none⟩ (.string ⟨#[]⟩)).setCell ⟨R, 1, none⟩ (.bool false)).heap[R]? = some (.cells #[.string ⟨#[]⟩, .bool false] 25 (0, 0)) := blk_put (blk_put hr 0 _ rfl) 1 _ rfl

/-- a round's head -/
structure CRel (w0 w wr : World) (B R : Nat) (fi : Bool) (lb tb : ByteArray) (a : List UInt8) (rs : List ByteArray) (r : (ByteArray × Bool) ⊕ (List S67 × List ByteArray)) (ls ts : List UInt8) (k : Nat) (A : Option Addr) (n c : Nat) (ov rv : Value) (args : List ByteArray) (os : List S67) (N : Nat) : Prop where
  st : St w0 wr B fi lb tb A n c ov rv args os rs
  res : wr.heap[R]? = some (.cells #[.string ⟨#[]⟩, .bool false] 25 (0, 0))
  rb : w0.heap.size ≤ R
  run : clus ls ts (a.drop k) args os = r
  cnt : os.length + (a.length - k) ≤ N
  kle : k ≤ a.length
  far : Kept25 w wr

set_option maxHeartbeats 4000000 in
set_option maxRecDepth 100000 in
theorem cluster_calls (w0 w : World) (B : Nat) (fi : Bool) (ls ts : List UInt8) (A : Option Addr) (n c : Nat) (ov rv : Value) (args : List ByteArray) (os : List S67) (rs : List ByteArray)
    (h : St w0 w B fi (mkB ls) (mkB ts) A n c ov rv args os rs) (a : List UInt8) (hb : os.length + a.length ≤ 1099511627776) :
    Calls Try.prog 28 #[.pointer (some ⟨B, 0, none⟩), .string (mkB a)] w (CPost w0 w B fi (mkB ls) (mkB ts) rs (clus ls ts a args os)) := by
  obtain ⟨r, hr⟩ : ∃ r, r = clus ls ts a args os := ⟨_, rfl⟩
  rw [← hr]
  obtain ⟨lb, hlb⟩ : ∃ lb, lb = mkB ls := ⟨_, rfl⟩
  obtain ⟨tb, htb⟩ : ∃ tb, tb = mkB ts := ⟨_, rfl⟩
  obtain ⟨S, hS⟩ : ∃ S, S = mkB a := ⟨_, rfl⟩
  rw [← hlb, ← htb] at h ⊢
  rw [← hS]
  have hSz : S.size = a.length := by rw [hS]; exact mkB_size a
  have hSle : S.size ≤ 1099511627776 := by omega
  have HR := Lib.hid hr
  have HLB := Lib.hid hlb
  have HTB := Lib.hid htb
  have HS := Lib.hid hS
  have HZ := Lib.hid hSz
  clear hr hlb htb hS hSz
  have hst := Aside0.mk h
  clear h
  go_enter Try.func28, Try.ntmps28
  go_wp2
  go_loopw [12] (fun v wr => ∃ (k : Nat) (A : Option Addr) (n c : Nat) (ov rv : Value) (args : List ByteArray) (os : List S67), v = .int .i64 k ∧ CRel w0 w wr B w.heap.size fi lb tb a rs r ls ts k A n c ov rv args os 1099511627776) (fun v _ => S.size - (intOf v).toNat)
  case atStart =>
    refine ⟨0, A, n, c, ov, rv, args, os, rfl, ?_, ?_, hst.out.bel.size, ?_, by omega, Nat.zero_le _, fun k cs hc => blk_alloc hc _⟩
    · exact hst.out.below (below_alloc (Below.refl _ _) _)
    · exact blk_new w _
    · rw [HR.out]; rfl
  case round =>
    clear hst
    obtain ⟨k, A, n, c, ov, rv, args, os, rfl, HC⟩ := hrel
    have hkle := HC.kle
    by_cases hk : k < S.size
    · have hkl : k < a.length := by have := HZ.out; omega
      obtain ⟨b, hbd⟩ : ∃ b, b = a[k]'hkl := ⟨_, rfl⟩
      have hd : a.drop k = b :: a.drop (k + 1) := by rw [hbd]; exact List.drop_eq_getElem_cons hkl
      obtain ⟨nm, hnm⟩ : ∃ nm, nm = mkB [b] := ⟨_, rfl⟩
      obtain ⟨ab, habl⟩ : ∃ ab, ab = mkB (a.drop (k + 1)) := ⟨_, rfl⟩
      have hcut : ∀ W : World, (Instr.slice 9 (.string S) (some (.int .i64 (k : Int))) (some (.int .i64 ((k : Int) + 1))) none).run Try.prog W = .ok (.string nm) W := fun W => by
        have h0 := run_slice_string (P := Try.prog) W 9 S .i64 .i64 (k : Int) ((k : Int) + 1) Try.underlying9 (by omega) (by omega) (by omega)
        have e : S.extract (k : Int).toNat ((k : Int) + 1).toNat = nm := by
          rw [show ((k : Int) + 1).toNat = k + 1 from by omega, show (k : Int).toNat = k from by omega, hnm, HS.out, mkB_take1 a k hkl, hbd]
        rw [e] at h0
        exact h0
      have hcut2 : ∀ W : World, (Instr.slice 9 (.string S) (some (.int .i64 ((k : Int) + 1))) none none).run Try.prog W = .ok (.string ab) W := fun W => by
        have h0 := run_slice_string_l (P := Try.prog) W 9 S Try.underlying9 .i64 ((k : Int) + 1) (by omega) (by omega)
        have e : S.extract ((k : Int) + 1).toNat S.size = ab := by
          rw [show ((k : Int) + 1).toNat = k + 1 from by omega, habl, HS.out, mkB_drop]
        rw [e] at h0
        exact h0
      have HD := Lib.hid hd
      have HNM := Lib.hid hnm
      have HAB := Lib.hid habl
      clear hd hbd hnm habl
      have hc1 : ∀ W : World, Calls Try.prog 32 #[.string lb, .string nm] W fun e w' => e = .returned (.bool (ls.contains b)) ∧ W = w' := fun W => by
        rw [HNM.out, HLB.out]
        have := contains_byte (mkB ls) b W
        rw [mkB_data] at this
        exact this.mono fun e w' h => ⟨h.1, h.2.symm⟩
      have hc2 : ∀ W : World, Calls Try.prog 32 #[.string tb, .string nm] W fun e w' => e = .returned (.bool (ts.contains b)) ∧ W = w' := fun W => by
        rw [HNM.out, HTB.out]
        have := contains_byte (mkB ts) b W
        rw [mkB_data] at this
        exact this.mono fun e w' h => ⟨h.1, h.2.symm⟩
      have cl := blk_cell HC.st.blk 1
      have ct := blk_cell HC.st.blk 2
      have co := blk_cell HC.st.blk 4
      have fo := blk_frozen HC.st.blk 4
      simp at cl ct co
      have cr0 := blk_cell HC.res 0
      have cr1 := blk_cell HC.res 1
      have fr0 := blk_frozen HC.res 0
      have fr1 := blk_frozen HC.res 1
      simp at cr0 cr1
      have hrun := HC.run
      rw [HD.out] at hrun
      unfold clus at hrun
      by_cases hl : ls.contains b = false
      · rw [hl] at hc1
        rw [if_pos hl] at hrun
        have HRUN := Lib.hid hrun
        have HC1 := Lib.hid hc1
        clear hc1 hc2 hl hrun
        go_wp2_with fail
        refine (HC1.out _).mono ?_
        rintro e w' ⟨rfl, rfl⟩
        go_wp2
        refine bodyPost_ret (results_list (rs := [.cell 4 25, .tmp 5]) rfl (by simp) (.cell w.heap.size 25 #[.string nm, .bool false] (0, 0) _ rfl (blk_put (blk_put HC.res 0 _ rfl) 1 _ rfl) Try.underlying25 rfl (by kernel_rfl) (.tmp .nil))) rfl ?_
        rw [← HRUN.out]
        exact ⟨by rw [HNM.out]; rfl, (HC.st.bel.setCell (p := ⟨w.heap.size, 0, none⟩) HC.rb _).setCell (p := ⟨w.heap.size, 1, none⟩) HC.rb _, HC.far.result _ _⟩
      · have hl2 : ls.contains b = true := by simpa using hl
        rw [hl2] at hc1
        rw [if_neg hl] at hrun
        have HC1 := Lib.hid hc1
        clear hc1 hl hl2
        by_cases ht : ts.contains b = false
        · rw [ht] at hc2
          rw [if_pos ht] at hrun
          have HRUN := Lib.hid hrun
          have HC2 := Lib.hid hc2
          clear hc2 ht hrun
          go_wp2_with fail
          refine (HC1.out _).mono ?_
          rintro e w' ⟨rfl, rfl⟩
          go_wp2_with fail
          refine (HC2.out _).mono ?_
          rintro e w' ⟨rfl, rfl⟩
          have hcnt := HC.cnt
          go_wp2_with (((with_reducible refine gate_builtin (b := .append) (xs := #[.tmp 42, .tmp 45]) rfl ?_); at_builtin; refine Kd.R_append k67 (w0 := w0) w0.heap.size rfl (.tmp 42) (.tmp 45) 23 67 (.agg #[(.string ⟨#[]⟩), (.string ⟨#[]⟩)]) 32 rfl Try.underlying23 info67 rfl (by decide) (by omega) ov os (⟨nm, (⟨#[]⟩ : ByteArray)⟩ : S67) [.string nm, .string (⟨#[]⟩ : ByteArray)] (fun _ => True) (fun _ => False) rfl rfl (k67_mkM _ _ _ (⟨nm, (⟨#[]⟩ : ByteArray)⟩ : S67)) (fun _ hk => hk.elim) (fun _ _ => trivial) HC.st.op HC.st.bel HC.st.bel.size (by omega) ?_))
          intro v1 w1 ho hbel hg _
          obtain ⟨A2, c2, hv⟩ := Kd.R_slice ho
          rw [List.length_append, List.length_singleton] at hv
          subst hv
          have hbk := blk_grown HC.st.blk hg (Kd.R_ne HC.st.op HC.st.blk (by decide))
          have HP := Aside0.mk (HC.st.pushed ho hbel hg)
          have HF := Aside0.mk (HC.st.pushed_far hg HC.res (v1 := .slice A2 (os.length + 1) c2))
          have HK := Aside0.mk (show Kept25 w _ from fun k cs hc => HC.st.pushed_far hg (HC.far k cs hc) (v1 := .slice A2 (os.length + 1) c2))
          have c4 := blk_cell hbk 4
          have f4 := blk_frozen hbk 4
          simp at c4
          clear ho hbel hg hbk
          go_wp2
          go_roundw
          case rel =>
            refine ⟨k + 1, A, n, c, .slice A2 (os.length + 1) c2, rv, args, os ++ [(⟨nm, (⟨#[]⟩ : ByteArray)⟩ : S67)], by go_num, ?_⟩
            refine ⟨HP.out, HF.out, HC.rb, ?_, ?_, hkl, HK.out⟩
            · rw [← HRUN.out, HNM.out]; rfl
            · have := HC.cnt
              simp only [List.length_append, List.length_cons, List.length_nil]
              omega
          case measure => simp [intOf]; omega
        · have ht2 : ts.contains b = true := by simpa using ht
          rw [ht2] at hc2
          rw [if_neg ht] at hrun
          have HC2 := Lib.hid hc2
          clear hc2 ht ht2
          by_cases hab : (a.drop (k + 1)).isEmpty = false
          · rw [if_pos hab] at hrun
            have hea : ab.toList.isEmpty = false := by rw [HAB.out, ByteArray.toList_eq, mkB_data]; exact hab
            have HRUN := Lib.hid hrun
            have HAB2 := Lib.hid hab
            clear hrun hab
            go_wp2_with fail
            refine (HC1.out _).mono ?_
            rintro e w' ⟨rfl, rfl⟩
            go_wp2_with fail
            refine (HC2.out _).mono ?_
            rintro e w' ⟨rfl, rfl⟩
            have hcnt := HC.cnt
            go_wp2_with (((with_reducible refine gate_builtin (b := .append) (xs := #[.tmp 68, .tmp 72]) rfl ?_); at_builtin; refine Kd.R_append k67 (w0 := w0) w0.heap.size rfl (.tmp 68) (.tmp 72) 23 67 (.agg #[(.string ⟨#[]⟩), (.string ⟨#[]⟩)]) 32 rfl Try.underlying23 info67 rfl (by decide) (by omega) ov os (⟨nm, ab⟩ : S67) [.string nm, .string ab] (fun _ => True) (fun _ => False) rfl rfl (k67_mkM _ _ _ (⟨nm, ab⟩ : S67)) (fun _ hk => hk.elim) (fun _ _ => trivial) HC.st.op HC.st.bel HC.st.bel.size (by omega) ?_))
            intro v1 w1 ho hbel hg _
            obtain ⟨A2, c2, hv⟩ := Kd.R_slice ho
            rw [List.length_append, List.length_singleton] at hv
            subst hv
            have hbk := blk_grown HC.st.blk hg (Kd.R_ne HC.st.op HC.st.blk (by decide))
            have HP := Aside0.mk (HC.st.pushed ho hbel hg)
            have HF := Aside0.mk (HC.st.pushed_far hg HC.res (v1 := .slice A2 (os.length + 1) c2))
            have HK := Aside0.mk (show Kept25 w _ from fun k cs hc => HC.st.pushed_far hg (HC.far k cs hc) (v1 := .slice A2 (os.length + 1) c2))
            have c4 := blk_cell hbk 4
            have f4 := blk_frozen hbk 4
            simp at c4
            clear ho hbel hg hbk
            have cr0 := blk_cell HF.out 0
            have cr1 := blk_cell HF.out 1
            have fr0 := blk_frozen HF.out 0
            have fr1 := blk_frozen HF.out 1
            simp at cr0 cr1
            go_wp2
            refine bodyPost_ret (results_list (rs := [.cell 4 25, .tmp 5]) rfl (by simp) (.cell w.heap.size 25 #[.string ⟨#[]⟩, .bool false] (0, 0) _ rfl (CPost.goodBlk HF.out) Try.underlying25 rfl (by kernel_rfl) (.tmp .nil))) rfl ?_
            rw [← HRUN.out]
            rw [HNM.out, HAB.out] at HP
            exact CPost.good HP.out HF.out HC.rb HK.out (Nat.le_refl _)
          · rw [if_neg hab] at hrun
            have hab2 : (a.drop (k + 1)).isEmpty = true := by simpa using hab
            have hea : ab.toList.isEmpty = true := by rw [HAB.out, ByteArray.toList_eq, mkB_data]; exact hab2
            clear hab hab2
            have hlen := HC.st.len
            cases args with
            | nil =>
              obtain rfl : n = 0 := by rw [← hlen]; rfl
              have HRUN := Lib.hid hrun
              have HN := Aside0.mk (next_nil w0 wr B fi lb tb A c ov rv os rs HC.st)
              clear hrun hlen
              go_wp2_with fail
              refine (HC1.out _).mono ?_
              rintro e w' ⟨rfl, rfl⟩
              go_wp2_with fail
              refine (HC2.out _).mono ?_
              rintro e w' ⟨rfl, rfl⟩
              go_wp2_with fail
              refine HN.out.mono ?_
              rintro e w' ⟨rfl, ⟨nd, rfl⟩⟩
              go_wp2
              refine bodyPost_ret (results_list (rs := [.cell 4 25, .tmp 5]) rfl (by simp) (.cell w.heap.size 25 #[.string nm, .bool true] (0, 0) _ rfl (blk_put (blk_put (blk_drewN HC.res nd) 0 _ rfl) 1 _ rfl) Try.underlying25 rfl (by kernel_rfl) (.tmp .nil))) rfl ?_
              rw [← HRUN.out]
              exact ⟨by rw [HNM.out]; rfl, ((pw_below_drewN HC.st.bel nd).setCell (p := ⟨w.heap.size, 0, none⟩) HC.rb _).setCell (p := ⟨w.heap.size, 1, none⟩) HC.rb _, Kept25.result (w' := wr.drewN nd) (fun k cs hc => blk_drewN (HC.far k cs hc) nd) _ _⟩
            | cons x xs =>
              have HRUN := Lib.hid hrun
              have HN := Aside0.mk (next_cons w0 wr B fi lb tb A n c ov rv x xs os rs HC.st)
              have hcnt := HC.cnt
              clear hrun hlen
              go_wp2_with fail
              refine (HC1.out _).mono ?_
              rintro e w' ⟨rfl, rfl⟩
              go_wp2_with fail
              refine (HC2.out _).mono ?_
              rintro e w' ⟨rfl, rfl⟩
              go_wp2_with fail
              refine HN.out.mono ?_
              rintro e w2 ⟨rfl, ⟨A', n', c', hst2⟩, hfar⟩
              have HS2 := Aside0.mk hst2
              have HR2 := Aside0.mk ((hfar _ (blk_ne HC.res HC.st.blk (by decide))).trans HC.res)
              have HK2 := Aside0.mk (show Kept25 w w2 from fun k cs hc => (hfar _ (blk_ne (HC.far k cs hc) HC.st.blk (by decide))).trans (HC.far k cs hc))
              have co2 := blk_cell hst2.blk 4
              simp at co2
              clear hst2 hfar
              go_wp2_with (((with_reducible refine gate_builtin (b := .append) (xs := #[.tmp 68, .tmp 72]) rfl ?_); at_builtin; refine Kd.R_append k67 (w0 := w0) w0.heap.size rfl (.tmp 68) (.tmp 72) 23 67 (.agg #[(.string ⟨#[]⟩), (.string ⟨#[]⟩)]) 32 rfl Try.underlying23 info67 rfl (by decide) (by omega) ov os (⟨nm, x⟩ : S67) [.string nm, .string x] (fun _ => True) (fun _ => False) rfl rfl (k67_mkM _ _ _ (⟨nm, x⟩ : S67)) (fun _ hk => hk.elim) (fun _ _ => trivial) HS2.out.op HS2.out.bel HS2.out.bel.size (by omega) ?_))
              intro v1 w1 ho hbel hg _
              obtain ⟨A2, c2, hv⟩ := Kd.R_slice ho
              rw [List.length_append, List.length_singleton] at hv
              subst hv
              have hbk := blk_grown HS2.out.blk hg (Kd.R_ne HS2.out.op HS2.out.blk (by decide))
              have HP := Aside0.mk (HS2.out.pushed ho hbel hg)
              have HF := Aside0.mk (HS2.out.pushed_far hg HR2.out (v1 := .slice A2 (os.length + 1) c2))
              have HK := Aside0.mk (show Kept25 w _ from fun k cs hc => HS2.out.pushed_far hg (HK2.out k cs hc) (v1 := .slice A2 (os.length + 1) c2))
              have c4 := blk_cell hbk 4
              have f4 := blk_frozen hbk 4
              simp at c4
              clear ho hbel hg hbk
              have cr0 := blk_cell HF.out 0
              have cr1 := blk_cell HF.out 1
              have fr0 := blk_frozen HF.out 0
              have fr1 := blk_frozen HF.out 1
              simp at cr0 cr1
              go_wp2
              refine bodyPost_ret (results_list (rs := [.cell 4 25, .tmp 5]) rfl (by simp) (.cell w.heap.size 25 #[.string ⟨#[]⟩, .bool false] (0, 0) _ rfl (CPost.goodBlk HF.out) Try.underlying25 rfl (by kernel_rfl) (.tmp .nil))) rfl ?_
              rw [← HRUN.out]
              rw [HNM.out] at HP
              exact CPost.good HP.out HF.out HC.rb HK.out (Nat.le_refl _)
    · have hrun := HC.run
      rw [List.drop_eq_nil_of_le (by have := HZ.out; omega)] at hrun
      unfold clus at hrun
      have HRUN := Lib.hid hrun
      have cr0 := blk_cell HC.res 0
      have cr1 := blk_cell HC.res 1
      have fr0 := blk_frozen HC.res 0
      have fr1 := blk_frozen HC.res 1
      simp at cr0 cr1
      clear hrun
      go_wp2
      refine bodyPost_ret (results_list (rs := [.cell 4 25, .tmp 5]) rfl (by simp) (.cell w.heap.size 25 #[.string ⟨#[]⟩, .bool false] (0, 0) _ rfl (CPost.goodBlk HC.res) Try.underlying25 rfl (by kernel_rfl) (.tmp .nil))) rfl ?_
      rw [← HRUN.out]
      exact CPost.good HC.st HC.res HC.rb HC.far (Nat.le_refl _)

end Go.Proofs.Ytcmicndmaaaknaa.G
