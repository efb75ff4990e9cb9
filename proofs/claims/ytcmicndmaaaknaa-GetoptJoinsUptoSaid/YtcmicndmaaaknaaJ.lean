/- PLen HJoin0 HJoin G13 G14 G15 PJoin HShaped: merged by merge.py. -/
import Derived.Test.YtcmicndmaaaknaaPSpec
import Derived.Test.YtcmicndmaaaknaaPAsks
import Derived.Test.YtcmicndmaaaknaaG8
import Derived.Test.YtcmicndmaaaknaaHParse
import Derived.Test.YtcmicndmaaaknaaHParse0
import Derived.Test.YtcmicndmaaaknaaHContains
import Derived.Outline
import Derived.Test.YtcmicndmaaaknaaG0
import Derived.Test.YtcmicndmaaaknaaG5
import Derived.Test.YtcmicndmaaaknaaG6
import Derived.Test.YtcmicndmaaaknaaG9
import Derived.Test.YtcmicndmaaaknaaG10
import Derived.JoinedCond
import Derived.SizedLaws
import Derived.Shelf.Vars
/- Small laws on the weight of arguments and the length of what a parse tells. -/
namespace Go.Proofs.Ytcmicndmaaaknaa.G
open Go.RowKit Go.Proofs.YtcmicndmaaaknaaW.PrintWords
set_option linter.unusedVariables false
set_option linter.unusedSimpArgs false

theorem wt_cons (x : ByteArray) (xs : List ByteArray) : weight (x :: xs) = x.size + 1 + weight xs := by simp [weight]
theorem len_wt (xs : List ByteArray) : xs.length ≤ weight xs := by
  induction xs with
  | nil => exact Nat.zero_le _
  | cons x xs ih => rw [wt_cons, List.length_cons]; omega
theorem same_loop (l : List S67) (hl : l.length ≤ 9223372036854775807) (d : Nat) : ∀ i : Int, 0 ≤ i → i + d = l.length → Ev (fun k => tinselref09_Same.l0 k l l (l.length : Int) i) true := by
  induction d with
  | zero =>
    intro i h0 hd
    refine Ev.step (f := fun _ => some true) (fun k => ?_) (Ev.now _)
    simp only [tinselref09_Same.l0]
    rw [if_neg (by omega)]
  | succ d ih =>
    intro i h0 hd
    refine Ev.step (fun k => ?_) (ih (i + 1) (by omega) (by omega))
    simp only [tinselref09_Same.l0]
    rw [if_pos (by omega), if_pos h0, if_pos (by omega), if_pos (by omega), if_neg (by simp), w64 (by omega) (by omega)]
theorem same_same (l : List S67) (hl : l.length ≤ 9223372036854775807) : Ev (fun k => tinselref09_Same.f k l l) true := by
  refine Ev.congr (f := fun k => tinselref09_Same.l0 k l l (l.length : Int) 0) (fun k => ?_) (same_loop l hl l.length 0 (by omega) (by omega))
  unfold tinselref09_Same.f
  rw [if_pos rfl]

theorem clus_len {ls ts : List UInt8} : ∀ (a : List UInt8) (args : List ByteArray) (os : List S67) {os' : List S67} {args' : List ByteArray}, clus ls ts a args os = .inr (os', args') →
    os'.length + weight args' ≤ os.length + a.length + weight args ∧ args'.length ≤ args.length := by
  intro a args os os' args' h
  have := weight_part a args os h
  omega
theorem ploop_len (fi : Bool) (ls ts : List UInt8) (f : Nat) : ∀ (args : List ByteArray) (os : List S67) (rs : List ByteArray), (ploop fi ls ts f args os rs).1.length ≤ os.length + weight args ∧ (ploop fi ls ts f args os rs).2.1.length ≤ rs.length + args.length := by
  induction f with
  | zero => intro args os rs; exact ⟨Nat.le_add_right _ _, Nat.le_add_right _ _⟩
  | succ f ih =>
    intro args os rs
    cases args with
    | nil => exact ⟨Nat.le_add_right _ _, Nat.le_add_right _ _⟩
    | cons x xs =>
      unfold ploop
      by_cases hd : dashes x = true
      · rw [if_pos hd]
        exact ⟨Nat.le_add_right _ _, by simp only [List.length_append, List.length_cons]; omega⟩
      · rw [if_neg hd]
        by_cases hc : isClus x = true
        · rw [if_pos hc]
          cases hq : clus ls ts (x.data.toList.drop 1) xs os with
          | inl p => exact ⟨Nat.zero_le _, Nat.zero_le _⟩
          | inr p =>
            obtain ⟨os', args'⟩ := p
            have h1 := clus_len _ _ _ hq
            have h2 := ih args' os' rs
            have h3 := data_length x
            rw [List.length_drop] at h1
            rw [wt_cons, List.length_cons]
            simp only
            omega
        · rw [if_neg hc]
          cases fi with
          | true =>
            rw [if_pos rfl]
            exact ⟨Nat.le_add_right _ _, by simp only [List.length_append, List.length_cons, List.length_nil]; omega⟩
          | false =>
            rw [if_neg (by decide)]
            have h2 := ih xs os (rs ++ [x])
            rw [wt_cons, List.length_cons]
            simp only [List.length_append, List.length_cons, List.length_nil] at h2
            omega
theorem parse_len {a0 : ByteArray} {l : List ByteArray} {r : List S67 × List ByteArray × ByteArray × Bool × Int} (h : getopt_Parse.f a0 l = some r) : r.1.length ≤ weight l ∧ r.2.1.length ≤ l.length := by
  unfold getopt_Parse.f at h
  by_cases hw : weight l ≤ 1099511627776 ∧ a0.size ≤ 140737488355328
  · rw [if_pos hw] at h
    cases hs : specOf a0 with
    | none =>
      rw [hs] at h
      injection h with h
      subst h
      exact ⟨Nat.zero_le _, Nat.zero_le _⟩
    | some p =>
      obtain ⟨fi, ls, ts⟩ := p
      rw [hs] at h
      injection h with h
      subst h
      have := ploop_len fi ls ts l.length l [] []
      simpa using this
  · rw [if_neg hw] at h; cases h

end Go.Proofs.Ytcmicndmaaaknaa.G


/- getopt.Join: options and operands as arguments, as the plain loop says. -/
namespace Go.Proofs.Ytcmicndmaaaknaa.G
open Go.RowKit Go.Proofs.YtcmicndmaaaknaaW.PrintWords
set_option linter.unusedVariables false
set_option linter.unusedSimpArgs false

theorem scan_short : ∀ (l ls ts : List UInt8) (last : Bool) {ls' ts' : List UInt8}, scan l ls ts last = some (ls', ts') → ts'.length ≤ ts.length + l.length ∧ ls'.length ≤ ls.length + l.length := by
  intro l
  induction l with
  | nil =>
    intro ls ts last ls' ts' h
    simp only [scan] at h
    injection h with h
    injection h with h1 h2
    subst h1 h2
    simp
  | cons b r ih =>
    intro ls ts last ls' ts' h
    unfold scan at h
    by_cases h1 : b.toNat = 58 ∧ last = true
    · rw [if_pos h1] at h
      have := ih _ _ _ h
      simp only [List.length_append, List.length_drop, List.length_cons] at this ⊢
      omega
    · rw [if_neg h1] at h
      by_cases h2 : isLet b = true ∧ ls.contains b = false
      · rw [if_pos h2] at h
        have := ih _ _ _ h
        simp only [List.length_append, List.length_cons, List.length_nil] at this ⊢
        omega
      · rw [if_neg h2] at h; cases h
theorem spec_short {s : ByteArray} {fi : Bool} {ls ts : List UInt8} (h : specOf s = some (fi, ls, ts)) : ts.length ≤ s.size ∧ ls.length ≤ s.size := by
  unfold specOf at h
  obtain ⟨p, hp, he⟩ := Option.map_eq_some_iff.1 h
  obtain ⟨p1, p2⟩ := p
  injection he with e0 e
  injection e with e1 e2
  simp only at e1 e2
  subst e1 e2
  have := scan_short _ _ _ _ hp
  have h2 := strip_le s.data.toList
  rw [data_length] at h2
  simp at this
  omega

/-- what Join leaves -/
def JPost (w : World) (r : Option (List ByteArray)) (l2 : List ByteArray) (e : Ending) (w' : World) : Prop :=
  match r with
  | none => e = .returned (.tuple #[.slice none 0 0, .int .i64 22]) ∧ Below w.heap.size w w'
  | some out => ∃ v0_ : Value, e = .returned (.tuple #[v0_, .int .i64 0]) ∧ Kd.R Kd.string 9 w' w.heap.size (fun _ => True) v0_ ((out ++ [mkB [45, 45]]) ++ l2) ∧ Below w.heap.size w w'

/-- a round's head -/
structure JRel (w wr : World) (B : Nat) (fi : Bool) (lb tb : ByteArray) (ls ts : List UInt8) (l1 : List S67) (r : Option (List ByteArray)) (k : Nat) (ov : Value) (out : List ByteArray) : Prop where
  own : Kd.R Kd.string 9 wr w.heap.size (fun _ => True) ov out
  sp : wr.heap[B]? = some (.cells #[.bool fi, .string lb, .string tb] 53 (0, 0))
  bel : Below w.heap.size w wr
  run : jloop ls ts (l1.drop k) out = r
  len : out.length ≤ 2 * k
  kle : k ≤ l1.length

set_option maxHeartbeats 8000000 in
set_option maxRecDepth 100000 in
theorem join_loop_calls (s : ByteArray) (A1 : Option Addr) (c1 : Nat) (l1 : List S67) (A2 : Option Addr) (c2 : Nat) (l2 : List ByteArray) (w : World) (hM : MaxOk w)
    (hr1 : Kd.C k67 w A1 l1.length l1) (hc1 : l1.length ≤ c1) (hr2 : Kd.C Kd.string w A2 l2.length l2) (hc2 : l2.length ≤ c2)
    (hs : s.size ≤ 4000000000) (fi : Bool) (ls ts : List UInt8) (hspec : specOf s = some (fi, ls, ts)) (hcnt : l1.length + l2.length ≤ 1099511627776) :
    Calls Try.prog 13 #[.string s, .slice A1 l1.length c1, .slice A2 l2.length c2] w (JPost w (jloop ls ts l1 []) l2) := by
  obtain ⟨r, hr⟩ : ∃ r, r = jloop ls ts l1 [] := ⟨_, rfl⟩
  rw [← hr]
  have hshort := spec_short hspec
  have HR := Aside0.mk hr
  have HSP := Aside0.mk hspec
  have HR1 := Aside0.mk hr1
  have HC1 := Aside0.mk hc1
  have HR2 := Aside0.mk hr2
  have HC2 := Aside0.mk hc2
  have HM := Aside0.mk hM
  obtain ⟨n1, hn1⟩ : ∃ n1, n1 = l1.length := ⟨_, rfl⟩
  obtain ⟨n2, hn2⟩ : ∃ n2, n2 = l2.length := ⟨_, rfl⟩
  rw [← hn1, ← hn2]
  rw [← hn1, ← hn2] at hcnt
  have HN1 := Aside0.mk hn1
  have HN2 := Aside0.mk hn2
  clear hr hspec hr1 hc1 hr2 hc2 hn1 hn2 hM
  have hu53 := Try.underlying53
  have hu67 := Try.underlying67
  go_enter Try.func13, Try.ntmps13
  go_wp2_with fail
  refine (parse_calls s _ (by omega)).mono ?_
  rintro e w1 ⟨hsp, hb1⟩
  rw [HSP.out] at hsp
  obtain rfl := hsp
  obtain ⟨lb, hlb⟩ : ∃ lb, lb = mkB ls := ⟨_, rfl⟩
  obtain ⟨tb, htb⟩ : ∃ tb, tb = mkB ts := ⟨_, rfl⟩
  rw [← hlb, ← htb]
  have htz : tb.size < 4294967281 := by rw [htb, mkB_size]; omega
  have HLB := Aside0.mk hlb
  have HTB := Aside0.mk htb
  have HB1 := Aside0.mk hb1
  clear hlb htb hb1 hshort
  go_wp2
  go_loopw [10, 23] (fun vo vi wr => ∃ (k : Nat) (out : List ByteArray), vi = .int .i64 k ∧ JRel w wr w1.heap.size fi lb tb ls ts l1 r k vo out) (fun _ vi _ => n1 - (intOf vi).toNat)
  case atStart =>
    exact ⟨0, [], rfl, Kd.R_nil _ _ _ _ _, blk_new _ _, HB1.out.alloc HB1.out.size _, HR.out.symm, by simp, Nat.zero_le _⟩
  case round =>
    obtain ⟨k, out, rfl, HJ⟩ := hrel
    have hkle := HJ.kle
    rw [← HN1.out] at hkle
    have cl := blk_cell HJ.sp 1
    have ct := blk_cell HJ.sp 2
    simp at cl ct
    by_cases hk : k < n1
    · obtain ⟨ad, e1, hx0, hx1⟩ := at_T67 (HR1.out) (k : Int) (by omega) (by rw [← HN1.out]; omega)
      obtain ⟨o, ho⟩ : ∃ o, o = rd_T67 l1 (k : Int) := ⟨_, rfl⟩
      rw [← ho] at hx0 hx1
      rw [show (k : Int).toNat = k from by omega] at hx0 hx1
      replace hx0 := (HJ.bel.cell (World.block_lt_of_cell? w _ hx0)).trans hx0
      replace hx1 := (HJ.bel.cell (World.block_lt_of_cell? w _ hx1)).trans hx1
      cases e1
      have HO := Aside0.mk ho
      clear ho
      have hspA := blk_alloc HJ.sp (.cells #[.string o.f0, .string o.f1] 67)
      have cl2 := blk_cell hspA 1
      have ct2 := blk_cell hspA 2
      simp at cl2 ct2
      have HSPA := Aside0.mk hspA
      clear hspA
      have hBA := HJ.bel.alloc HJ.bel.size (.cells #[.string o.f0, .string o.f1] 67)
      have HBA := Aside0.mk hBA
      have HMA := Aside0.mk (HM.out.below hBA)
      clear hBA
      obtain ⟨f, hf⟩ : ∃ f, f = o.f0 := ⟨_, rfl⟩
      obtain ⟨g, hg⟩ : ∃ g, g = o.f1 := ⟨_, rfl⟩
      rw [← hf] at hx0
      rw [← hg] at hx1
      rw [← hf, ← hg] at cl2 ct2 HSPA HBA HMA
      have HF := Aside0.mk hf
      have HG := Aside0.mk hg
      clear hf hg
      have HOB := Aside0.mk (And.intro (blk_new wr (.cells #[.string f, .string g] 67)) (Kd.R_alloc HJ.own (.cells #[.string f, .string g] 67)))
      have hrun := HJ.run
      rw [List.drop_eq_getElem_cons (show k < l1.length by rw [← HN1.out]; exact hk)] at hrun
      have hok : l1[k]'(by rw [← HN1.out]; exact hk) = o := by
        rw [HO.out]
        unfold rd_T67
        rw [show (k : Int).toNat = k from by omega, List.getD_eq_getElem?_getD, List.getElem?_eq_getElem]
        rfl
      rw [hok] at hrun
      unfold jloop at hrun
      rw [← HF.out, ← HG.out] at hrun
      have hnew := HBA.out
      by_cases hone : f.size = 1
      · have hdl := data_length f
        obtain ⟨b, hb⟩ : ∃ b, f.data.toList = [b] := by
          cases hd : f.data.toList with
          | nil => rw [hd] at hdl; simp at hdl; omega
          | cons b t =>
            cases t with
            | nil => exact ⟨b, rfl⟩
            | cons c t => rw [hd] at hdl; simp at hdl; omega
        rw [hb] at hrun
        simp only at hrun
        have hfb : f = mkB [b] := eq_mkB hb
        have HFB := Aside0.mk hfb
        have hpb : (⟨#[45]⟩ : ByteArray) ++ f = mkB [45, b] := by rw [hfb]; rfl
        have HPB := Aside0.mk hpb
        have hfs : ((f.size : Int) == 1) = true := by rw [beq_iff_eq]; omega
        have hfs1 : f.size ≤ 1 := by omega
        have hc1 : ∀ W : World, Calls Try.prog 32 #[.string lb, .string f] W fun e w' => e = .returned (.bool (ls.contains b)) ∧ W = w' := fun W => by
          rw [HFB.out, HLB.out]
          have := contains_byte (mkB ls) b W
          rw [mkB_data] at this
          exact this.mono fun e w' h => ⟨h.1, h.2.symm⟩
        have hc2 : ∀ W : World, Calls Try.prog 32 #[.string tb, .string f] W fun e w' => e = .returned (.bool (ts.contains b)) ∧ W = w' := fun W => by
          rw [HFB.out, HTB.out]
          have := contains_byte (mkB ts) b W
          rw [mkB_data] at this
          exact this.mono fun e w' h => ⟨h.1, h.2.symm⟩
        clear hnew hb hfb hpb hdl hone
        by_cases hl : ls.contains b = false
        · rw [if_pos hl] at hrun
          rw [hl] at hc1
          have HRUN : Aside0 (none = r) := ⟨hrun⟩
          have HC1 := Aside0.mk hc1
          have HC2 := Aside0.mk hc2
          clear hrun hc1 hc2 hl
          go_wp2_with fail
          refine (HC2.out _).mono ?_
          rintro e w3_ ⟨rfl, hw⟩
          rw [hw] at HSPA HBA HOB
          have q0 := blk_cell HOB.out.1 0
          have q1 := blk_cell HOB.out.1 1
          have q2 := blk_cell HSPA.out 1
          simp at q0 q1 q2
          clear hw
          go_wp2_with fail
          refine (HC1.out _).mono ?_
          rintro e w' ⟨rfl, rfl⟩
          go_wp2
          all_goals
            go_ret2
            rw [← HRUN.out]
            exact ⟨rfl, HBA.out⟩
        · rw [if_neg hl] at hrun
          have hl2 : ls.contains b = true := by simpa using hl
          rw [hl2] at hc1
          have HC1 := Aside0.mk hc1
          clear hl hl2 hc1
          have hlen := HJ.len
          by_cases ht : ts.contains b = false
          · rw [if_pos ht] at hrun
            rw [ht] at hc2
            have HC2 := Aside0.mk hc2
            clear ht hc2
            by_cases hg0 : g.size = 0
            · rw [if_pos hg0] at hrun
              have hge : g.toList.isEmpty = true := by
                rw [ByteArray.toList_eq, List.isEmpty_iff]
                exact List.eq_nil_of_length_eq_zero (by rw [data_length]; exact hg0)
              have HRUN := Aside0.mk hrun
              clear hrun hg0
              go_wp2_with fail
              refine (HC2.out _).mono ?_
              rintro e w3_ ⟨rfl, hw⟩
              rw [hw] at HSPA HBA HOB
              have q0 := blk_cell HOB.out.1 0
              have q1 := blk_cell HOB.out.1 1
              have q2 := blk_cell HSPA.out 1
              simp at q0 q1 q2
              clear hw
              go_wp2_with fail
              refine (HC1.out _).mono ?_
              rintro e w' ⟨rfl, rfl⟩
              go_wp2_with ((with_reducible refine gate_builtin (b := .append) (xs := #[.tmp 53, .tmp 57]) rfl ?_); at_builtin; refine Kd.R_append Kd.string (w0 := w) w.heap.size rfl (.tmp 53) (.tmp 57) 22 9 (.string ⟨#[]⟩) 16 rfl Try.underlying22 info9 rfl (by decide) (by omega) u10 out ((⟨#[45]⟩ : ByteArray) ++ f) [.string ((⟨#[45]⟩ : ByteArray) ++ f)] (fun _ => True) (fun _ => False) rfl rfl rfl (fun _ hk => hk.elim) (fun _ _ => trivial) HOB.out.2 HBA.out HBA.out.size (by omega) ?_)
              intro v1 w3 ho hbel hg _
              have hsp3 := blk_grown HSPA.out hg (Kd.R_ne HOB.out.2 HSPA.out (by decide))
              rw [HPB.out] at ho
              have HREL : Aside0 (JRel w w3 w1.heap.size fi lb tb ls ts l1 r (k + 1) v1 (out ++ [mkB [45, b]])) := ⟨⟨ho, hsp3, hbel, HRUN.out, by rw [List.length_append, List.length_singleton]; omega, by rw [← HN1.out]; exact hk⟩⟩
              clear ho hbel hg hsp3
              go_wp2
              go_roundw
              case rel => exact ⟨k + 1, _, by go_num, HREL.out⟩
              case measure => simp [intOf]; omega
              all_goals
                exfalso
                have hx := eq_of_beq hfs
                omega
            · rw [if_neg hg0] at hrun
              have hge : g.toList.isEmpty = false := by
                rw [ByteArray.toList_eq, List.isEmpty_eq_false_iff]
                intro h0
                have := data_length g
                rw [h0] at this
                exact hg0 this.symm
              have HRUN : Aside0 (none = r) := ⟨hrun⟩
              clear hrun hg0
              go_wp2_with fail
              refine (HC2.out _).mono ?_
              rintro e w3_ ⟨rfl, hw⟩
              rw [hw] at HSPA HBA HOB
              have q0 := blk_cell HOB.out.1 0
              have q1 := blk_cell HOB.out.1 1
              have q2 := blk_cell HSPA.out 1
              simp at q0 q1 q2
              clear hw
              go_wp2_with fail
              refine (HC1.out _).mono ?_
              rintro e w' ⟨rfl, rfl⟩
              go_wp2
              all_goals
                go_ret2
                rw [← HRUN.out]
                exact ⟨rfl, HBA.out⟩
          · rw [if_neg ht] at hrun
            have ht2 : ts.contains b = true := by simpa using ht
            rw [ht2] at hc2
            have HC2 := Aside0.mk hc2
            have HRUN := Aside0.mk hrun
            clear ht ht2 hc2 hrun
            go_wp2_with fail
            refine (HC2.out _).mono ?_
            rintro e w3_ ⟨rfl, hw⟩
            rw [hw] at HSPA HBA HOB
            have q0 := blk_cell HOB.out.1 0
            have q1 := blk_cell HOB.out.1 1
            have q2 := blk_cell HSPA.out 1
            simp at q0 q1 q2
            clear hw
            go_wp2_with fail
            refine (HC1.out _).mono ?_
            rintro e w' ⟨rfl, rfl⟩
            go_wp2_with ((with_reducible refine gate_builtin (b := .append) (xs := #[.tmp 53, .tmp 57]) rfl ?_); at_builtin; refine Kd.R_append Kd.string (w0 := w) w.heap.size rfl (.tmp 53) (.tmp 57) 22 9 (.string ⟨#[]⟩) 16 rfl Try.underlying22 info9 rfl (by decide) (by omega) u10 out ((⟨#[45]⟩ : ByteArray) ++ f) [.string ((⟨#[45]⟩ : ByteArray) ++ f)] (fun _ => True) (fun _ => False) rfl rfl rfl (fun _ hk => hk.elim) (fun _ _ => trivial) HOB.out.2 HBA.out HBA.out.size (by omega) ?_)
            intro v1 w3 ho hbel hg _
            have hsp3 := blk_grown HSPA.out hg (Kd.R_ne HOB.out.2 HSPA.out (by decide))
            have hob := blk_grown HOB.out.1 hg (Kd.R_ne HOB.out.2 HOB.out.1 (by decide))
            have cg := blk_cell hob 1
            simp at cg
            rw [HPB.out] at ho
            have HO3 := Aside0.mk ho
            have HB3 := Aside0.mk hbel
            have HSP3 := Aside0.mk hsp3
            clear ho hbel hg hsp3 hob
            have hlen3 : (out ++ [mkB [45, b]]).length = out.length + 1 := by simp
            go_wp2_with ((with_reducible refine gate_builtin (b := .append) (xs := #[.tmp 60, .tmp 63]) rfl ?_); at_builtin; refine Kd.R_append Kd.string (w0 := w) w.heap.size rfl (.tmp 60) (.tmp 63) 22 9 (.string ⟨#[]⟩) 16 rfl Try.underlying22 info9 rfl (by decide) (by omega) v1 (out ++ [mkB [45, b]]) g [.string g] (fun _ => True) (fun _ => False) rfl rfl rfl (fun _ hk => hk.elim) (fun _ _ => trivial) HO3.out HB3.out HB3.out.size (by rw [hlen3]; omega) ?_)
            intro v2 w4 ho hbel hg _
            have hsp4 := blk_grown HSP3.out hg (Kd.R_ne HO3.out HSP3.out (by decide))
            have HREL : Aside0 (JRel w w4 w1.heap.size fi lb tb ls ts l1 r (k + 1) v2 (out ++ [mkB [45, b]] ++ [g])) := ⟨⟨by rw [List.append_assoc]; exact ho, hsp4, hbel, HRUN.out, by rw [List.length_append, hlen3, List.length_singleton]; omega, by rw [← HN1.out]; exact hk⟩⟩
            clear ho hbel hg hsp4
            go_wp2
            go_roundw
            case rel => exact ⟨k + 1, _, by go_num, HREL.out⟩
            case measure => simp [intOf]; omega
            all_goals
              exfalso
              have hx := eq_of_beq hfs
              omega
      · have hnone : none = r := by
          rw [← hrun]
          have hdl := data_length f
          cases hd : f.data.toList with
          | nil => rfl
          | cons b t =>
            cases t with
            | nil => rw [hd] at hdl; simp at hdl; omega
            | cons c t => rfl
        have HRUN := Aside0.mk hnone
        have hfs : ((f.size : Int) == 1) = false := by rw [beq_eq_false_iff_ne]; omega
        have hany : Aside0 (Calls Try.prog 32 #[.string tb, .string f] (wr.alloc (.cells #[.string f, .string g] 67)) fun e w' => ∃ q : Bool, e = .returned (.bool q) ∧ (wr.alloc (.cells #[.string f, .string g] 67)) = w') :=
          ⟨(contains_any tb f (wr.alloc (.cells #[.string f, .string g] 67)) HMA.out htz).mono fun e w' h => by obtain ⟨q, h1, h2⟩ := h; exact ⟨q, h1, h2.symm⟩⟩
        clear hrun hnone hnew
        go_wp2_with fail
        refine hany.out.mono ?_
        rintro e w' ⟨q, rfl, rfl⟩
        go_wp2
        all_goals
          go_ret2
          rw [← HRUN.out]
          exact ⟨rfl, HBA.out⟩
    · have hrun := HJ.run
      rw [List.drop_eq_nil_of_le (by rw [← HN1.out]; omega)] at hrun
      unfold jloop at hrun
      have HRUN := Aside0.mk hrun
      have hlen := HJ.len
      clear hrun
      go_wp2_with ((with_reducible refine gate_builtin (b := .append) (xs := #[.tmp 66, .tmp 67]) rfl ?_); at_builtin; refine Kd.R_append Kd.string (w0 := w) w.heap.size rfl (.tmp 66) (.tmp 67) 22 9 (.string ⟨#[]⟩) 16 rfl Try.underlying22 info9 rfl (by decide) (by omega) u10 out (mkB [45, 45]) [.string (mkB [45, 45])] (fun _ => True) (fun _ => False) rfl rfl rfl (fun _ hk => hk.elim) (fun _ _ => trivial) HJ.own HJ.bel HJ.bel.size (by omega) ?_)
      intro v1 w3 ho hbel hg _
      have HO3 := Aside0.mk ho
      have HB3 := Aside0.mk hbel
      have hlen3 : (out ++ [mkB [45, 45]]).length = out.length + 1 := by simp
      clear ho hbel hg
      go_wp2_with ((with_reducible refine gate_builtin (b := .append) (xs := #[.tmp 68, .tmp 69]) rfl ?_); at_builtin; refine Kd.R_append_rows Kd.string (w0 := w) w.heap.size rfl (.tmp 68) (.tmp 69) 22 9 (.string ⟨#[]⟩) 16 rfl Try.underlying22 info9 rfl (by decide) (by omega) v1 (out ++ [mkB [45, 45]]) l2 A2 n2 c2 (fun _ => True) (fun _ => False) rfl rfl HO3.out (by rw [HN2.out]; exact Kd.C_below HR2.out HB3.out) (fun _ _ h => h) (fun _ h => h.elim) (fun _ _ => trivial) HB3.out HB3.out.size (by rw [hlen3]; omega) ?_)
      intro v2 w4 ho hbel _ _
      go_wp2
      go_ret2
      rw [← HRUN.out]
      exact ⟨_, rfl, by rw [List.append_assoc]; exact ho, hbel⟩

end Go.Proofs.Ytcmicndmaaaknaa.G


/- getopt.Join's contract in the form that its callers ask. -/
namespace Go.Proofs.Ytcmicndmaaaknaa.G
open Go.RowKit Go.Proofs.YtcmicndmaaaknaaW.PrintWords
set_option linter.unusedVariables false
set_option linter.unusedSimpArgs false

/-- what a call of Join asks beside the plain guards -/
structure JoinOk (w : World) (s : ByteArray) : Prop where
  cell : MaxOk w
  size : s.size ≤ 4000000000
theorem JoinOk.below {w w1 : World} {s : ByteArray} (h : JoinOk w s) (hb : Below w.heap.size w w1) : JoinOk w1 s := ⟨h.cell.below hb, h.size⟩

set_option maxHeartbeats 2000000 in
set_option maxRecDepth 100000 in
theorem join_none_calls (s : ByteArray) (A1 : Option Addr) (n1 c1 : Nat) (A2 : Option Addr) (n2 c2 : Nat) (w : World) (hs : s.size ≤ 4000000000) (hspec : specOf s = none) :
    Calls Try.prog 13 #[.string s, .slice A1 n1 c1, .slice A2 n2 c2] w fun e w' => e = .returned (.tuple #[.slice none 0 0, .int .i64 22]) ∧ Below w.heap.size w w' := by
  have HSP := Aside0.mk hspec
  clear hspec
  have hu53 := Try.underlying53
  go_enter Try.func13, Try.ntmps13
  go_wp2_with fail
  refine (parse_calls s _ (by omega)).mono ?_
  rintro e w1 ⟨hsp, hb1⟩
  rw [HSP.out] at hsp
  obtain rfl := hsp
  have HB := Aside0.mk hb1
  clear hb1
  go_wp2
  go_ret2
  exact ⟨rfl, HB.out.alloc HB.out.size _⟩

theorem getopt_Join.calls (a0 : ByteArray) (A1 : Option Addr) (c1 : Nat) (l1 : List (S67)) (A2 : Option Addr) (c2 : Nat) (l2 : List ByteArray) (r1 : List ByteArray) (r2 : Int) (w : World) (hok : JoinOk w a0) (hr1 : Kd.C k67 w A1 l1.length l1) (hc1 : l1.length ≤ c1) (hr2 : Kd.C Kd.string w A2 l2.length l2) (hc2 : l2.length ≤ c2) (h : getopt_Join.f a0 l1 l2 = some (r1, r2)) :
    Calls Try.prog 13 #[.string a0, .slice A1 l1.length c1, .slice A2 l2.length c2] w fun e w' => ∃ v0_ : Value, e = .returned (.tuple #[v0_, .int .i64 r2]) ∧ Kd.R Kd.string 9 w' w.heap.size (fun _ => True) v0_ r1 ∧ Below w.heap.size w w' := by
  unfold getopt_Join.f at h
  by_cases hw : l1.length + l2.length ≤ 1099511627776 ∧ a0.size ≤ 140737488355328
  · rw [if_pos hw] at h
    cases hsp : specOf a0 with
    | none =>
      rw [hsp] at h
      injection h with h
      injection h with h1 h2
      subst h1 h2
      refine (join_none_calls a0 A1 l1.length c1 A2 l2.length c2 w hok.size hsp).mono ?_
      rintro e w' ⟨h1, h2⟩
      exact ⟨_, h1, Kd.R_nil _ _ _ _ _, h2⟩
    | some p =>
      obtain ⟨fi, ls, ts⟩ := p
      rw [hsp] at h
      have HL := join_loop_calls a0 A1 c1 l1 A2 c2 l2 w hok.cell hr1 hc1 hr2 hc2 hok.size fi ls ts hsp hw.1
      cases hj : jloop ls ts l1 [] with
      | none =>
        simp only at h
        rw [hj] at h HL
        injection h with h
        injection h with h1 h2
        subst h1 h2
        refine HL.mono ?_
        rintro e w' ⟨h1, h2⟩
        exact ⟨_, h1, Kd.R_nil _ _ _ _ _, h2⟩
      | some out =>
        simp only at h
        rw [hj] at h HL
        injection h with h
        injection h with h1 h2
        subst h1 h2
        exact HL
  · rw [if_neg hw] at h
    cases h
end Go.Proofs.Ytcmicndmaaaknaa.G


-- Made by a program of this session out of the translation; Lean checks it.
namespace Go.Proofs.Ytcmicndmaaaknaa.G
open Go.RowKit Go.Proofs.YtcmicndmaaaknaaW.PrintWords Go.Proofs.YtcmicndmaaaknaaW.PrintLast Go.Proofs.YtcmicndmaaaknaaW.PrintMore
attribute [local go_sem] max2_int min2_int max_two min_two max_three min_three max_four min_four   -- for this text's walks alone
set_option linter.unusedVariables false
set_option linter.unusedSimpArgs false

/-! ### tinselref09_Join: function 14 -/
mutual
def tinselref09_Join.l0 : Nat → ByteArray → List ByteArray → List ByteArray → List (S67) → Int → Int → Option (List ByteArray × Int)
  | 0, _, _, _, _, _, _ => none
  | k + 1, x0, x2, x8, x16, x17, x18 => if x18 < x17 then (if 0 ≤ x18 then (if x18 < (x16.length : Int) then (if (((rd_T67 x16 x18).f0).size : Int) = 1 then (if 0 < (((rd_T67 x16 x18).f0).size : Int) then ((tinselref09_takes.f k x0 (bt ((rd_T67 x16 x18).f0) 0)).bind fun bt231 => (if bt231.1 = true then (if bt231.2 = true then (tinselref09_Join.j1 k x0 x2 x8 bt231.2 x16 x17 x18 false ((rd_T67 x16 x18).f0) ((rd_T67 x16 x18).f1)) else (tinselref09_Join.j1 k x0 x2 x8 bt231.2 x16 x17 x18 (((rd_T67 x16 x18).f1).toList != ([] : List UInt8)) ((rd_T67 x16 x18).f0) ((rd_T67 x16 x18).f1))) else (tinselref09_Join.j1 k x0 x2 x8 bt231.2 x16 x17 x18 true ((rd_T67 x16 x18).f0) ((rd_T67 x16 x18).f1)))) else (none)) else (some (([] : List ByteArray), 22))) else (none)) else (none)) else (if x8.length < 8796093022208 then ((some (x8 ++ [(⟨#[45, 45]⟩ : ByteArray)] : List ByteArray)).bind fun y223 => (if y223.length + x2.length < 8796093022208 then (some ((y223 ++ x2), 0)) else (none))) else (none))
def tinselref09_Join.j1 : Nat → ByteArray → List ByteArray → List ByteArray → Bool → List (S67) → Int → Int → Bool → ByteArray → ByteArray → Option (List ByteArray × Int)
  | 0, _, _, _, _, _, _, _, _, _, _ => none
  | k + 1, x0, x2, x8, x12, x16, x17, x18, x44, x231000, x231001 => if x44 = true then (some (([] : List ByteArray), 22)) else (if 1 + x231000.size ≤ 9223372036854775807 then (if x8.length < 8796093022208 then ((some (x8 ++ [(⟨#[45]⟩ : ByteArray) ++ x231000] : List ByteArray)).bind fun y233 => (if x12 = true then (if y233.length < 8796093022208 then (tinselref09_Join.l0 k x0 x2 (y233 ++ [x231001]) x16 x17 (wrap64 (x18 + 1))) else (none)) else (tinselref09_Join.l0 k x0 x2 y233 x16 x17 (wrap64 (x18 + 1))))) else (none)) else (none))
end
def tinselref09_Join.f (k : Nat) (a0 : ByteArray) (l1 : List (S67)) (l2 : List ByteArray) : Option (List ByteArray × Int) := (tinselref09_Spec.f k a0).bind fun t222 => (if t222 = true then (tinselref09_Join.l0 k a0 l2 ([] : List ByteArray) l1 (l1.length : Int) 0) else (some (([] : List ByteArray), 22)))
theorem tinselref09_Join.mono_l : ∀ k, (∀ y0 y1 y2 y3 y4 y5, LeO (tinselref09_Join.l0 k y0 y1 y2 y3 y4 y5) (tinselref09_Join.l0 (k + 1) y0 y1 y2 y3 y4 y5)) ∧ (∀ y0 y1 y2 y3 y4 y5 y6 y7 y8 y9, LeO (tinselref09_Join.j1 k y0 y1 y2 y3 y4 y5 y6 y7 y8 y9) (tinselref09_Join.j1 (k + 1) y0 y1 y2 y3 y4 y5 y6 y7 y8 y9))
  | 0 => ⟨fun _ _ _ _ _ _ r h => by simp [tinselref09_Join.l0] at h, fun _ _ _ _ _ _ _ _ _ _ r h => by simp [tinselref09_Join.j1] at h⟩
  | k + 1 => by
    obtain ⟨ih0, ih1⟩ := tinselref09_Join.mono_l k
    refine ⟨?_, ?_⟩
    · intro y0 y1 y2 y3 y4 y5
      unfold tinselref09_Join.l0
      repeat' first
      | (with_reducible exact ih0 _ _ _ _ _ _)
      | (with_reducible exact ih1 _ _ _ _ _ _ _ _ _ _)
      | (with_reducible exact tinselref09_Spec.mono _ _)
      | (with_reducible exact tinselref09_takes.mono _ _ _)
      | (with_reducible exact LeO.refl _)
      | (with_reducible exact LeO.none _)
      | (with_reducible refine LeO.ite ?_ ?_)
      | (with_reducible refine LeO.bind ?_ (fun _ => ?_))
      | exact ih0 _ _ _ _ _ _
      | exact ih1 _ _ _ _ _ _ _ _ _ _
      | exact tinselref09_Spec.mono _ _
      | exact tinselref09_takes.mono _ _ _
      | exact LeO.none _
      | refine LeO.ite ?_ ?_
      | refine LeO.bind ?_ (fun _ => ?_)
    · intro y0 y1 y2 y3 y4 y5 y6 y7 y8 y9
      unfold tinselref09_Join.j1
      repeat' first
      | (with_reducible exact ih0 _ _ _ _ _ _)
      | (with_reducible exact ih1 _ _ _ _ _ _ _ _ _ _)
      | (with_reducible exact tinselref09_Spec.mono _ _)
      | (with_reducible exact tinselref09_takes.mono _ _ _)
      | (with_reducible exact LeO.refl _)
      | (with_reducible exact LeO.none _)
      | (with_reducible refine LeO.ite ?_ ?_)
      | (with_reducible refine LeO.bind ?_ (fun _ => ?_))
      | exact ih0 _ _ _ _ _ _
      | exact ih1 _ _ _ _ _ _ _ _ _ _
      | exact tinselref09_Spec.mono _ _
      | exact tinselref09_takes.mono _ _ _
      | exact LeO.none _
      | refine LeO.ite ?_ ?_
      | refine LeO.bind ?_ (fun _ => ?_)
theorem tinselref09_Join.mono : ∀ a0 a1 a2 k, LeO (tinselref09_Join.f k a0 a1 a2) (tinselref09_Join.f (k + 1) a0 a1 a2) := by
  intro a0 a1 a2 k
  obtain ⟨ih0, ih1⟩ := tinselref09_Join.mono_l k
  unfold tinselref09_Join.f
  repeat' first
      | (with_reducible exact ih0 _ _ _ _ _ _)
      | (with_reducible exact ih1 _ _ _ _ _ _ _ _ _ _)
      | (with_reducible exact tinselref09_Spec.mono _ _)
      | (with_reducible exact tinselref09_takes.mono _ _ _)
      | (with_reducible exact LeO.refl _)
      | (with_reducible exact LeO.none _)
      | (with_reducible refine LeO.ite ?_ ?_)
      | (with_reducible refine LeO.bind ?_ (fun _ => ?_))
      | exact ih0 _ _ _ _ _ _
      | exact ih1 _ _ _ _ _ _ _ _ _ _
      | exact tinselref09_Spec.mono _ _
      | exact tinselref09_takes.mono _ _ _
      | exact LeO.none _
      | refine LeO.ite ?_ ?_
      | refine LeO.bind ?_ (fun _ => ?_)
set_option maxHeartbeats 8000000 in
set_option maxRecDepth 100000 in
theorem tinselref09_Join.calls (k : Nat) (a0 : ByteArray) (A1 : Option Addr) (c1 : Nat) (l1 : List (S67)) (A2 : Option Addr) (c2 : Nat) (l2 : List ByteArray) (r1 : List ByteArray) (r2 : Int) (w : World) (hr1 : Kd.C k67 w A1 l1.length l1) (hc1 : l1.length ≤ c1) (hr2 : Kd.C Kd.string w A2 l2.length l2) (hc2 : l2.length ≤ c2) (h : tinselref09_Join.f k a0 l1 l2 = some (r1, r2)) :
    Calls Try.prog 14 #[.string a0, .slice A1 l1.length c1, .slice A2 l2.length c2] w fun e w' => ∃ v0_ : Value, e = .returned (.tuple #[v0_, .int .i64 r2]) ∧ Kd.R Kd.string 9 w' w.heap.size (fun _ => True) v0_ r1 ∧ Below w.heap.size w w' := by
  have hu67 := Try.underlying67
  have HR1 := Aside0.mk hr1
  have HC1 := Aside0.mk hc1
  clear hr1 hc1
  have HR2 := Aside0.mk hr2
  have HC2 := Aside0.mk hc2
  clear hr2 hc2
  have HB := Aside0.mk (Below.refl w.heap.size w)
  have H : ((tinselref09_Spec.f k a0).bind fun t222 => (if t222 = true then (tinselref09_Join.l0 k a0 l2 ([] : List ByteArray) l1 (l1.length : Int) 0) else (some (([] : List ByteArray), 22)))) = some (r1, r2) := h
  clear h
  replace H := Option.bind_eq_some_iff.mp H
  obtain ⟨t222, A40, H⟩ := H
  replace H : (if t222 = true then (tinselref09_Join.l0 k a0 l2 ([] : List ByteArray) l1 (l1.length : Int) 0) else (some (([] : List ByteArray), 22))) = some (r1, r2) := H
  have A4 := Aside0.mk A40
  clear A40
  by_cases c5 : t222 = true
  · subst c5
    have H1 : (tinselref09_Join.l0 k a0 l2 ([] : List ByteArray) l1 (l1.length : Int) 0) = some (r1, r2) := by rw [if_pos rfl] at H; exact H
    clear H
    have H := H1
    clear H1
    have H' := Aside0.mk H
    clear H
    go_enter Try.func14, Try.ntmps14
    go_wp2_with (first | ((with_reducible refine gate_callee (f := 29) rfl ?_); refine goesL_ (some 14) rfl rfl Try.func29 (by kernel_rfl) rfl #[.string a0] rfl (by (try simp only [List.map_toArray, List.map_cons, List.map_nil]); first | done | rfl | (simp only [List.length_drop, List.length_take]; rfl)) ?_; (with_reducible refine (tinselref09_Spec.calls k a0 true _ A4.out).mono ?_); rintro e w' ⟨rfl, ⟨nd, rfl⟩⟩; refine ⟨_, rfl, ?_⟩))
    go_loopg [8, 18] k (fun kq v8 v18 w' => ∃ (x8_1 : List ByteArray) (x18_1 : Int), v18 = .int .i64 x18_1 ∧ Aside0 (tinselref09_Join.l0 kq a0 l2 x8_1 l1 (l1.length : Int) x18_1 = some (r1, r2)) ∧ Aside0 (kq ≤ k) ∧ Aside0 (Kd.R Kd.string 9 w' w.heap.size (fun _ => True) v8 x8_1) ∧ Aside0 (Below w.heap.size w w'))
    case atStart => exact ⟨(([] : List ByteArray)), (0), (by first | rfl | (simp; done) | (simp [*]; done)), H', ⟨Nat.le_refl _⟩, ⟨by first | exact Kd.R_nil _ _ _ _ _ | exact Kd.N_nil _ _ _ _ _ | exact Kd.V_nil _ _ _ _ _ | exact Kd.Q_nil _ _ _ _ _ | exact Kd.S_nil _ _ _ _ _⟩, ⟨by repeat (first | (with_reducible first | exact HB.out | apply below_alloc | apply pw_below_drewN | apply below_drew1) | exact HB.out)⟩⟩
    case round =>
      clear H'
      try clear c1
      try clear c2
      try clear p2
      try clear c5
      obtain ⟨x8_1, x18_1, rfl, HA, HK1, HO_8, HB⟩ := hrel
      cases gk with
      | zero => exact absurd HA.out (by simp [tinselref09_Join.l0])
      | succ k1 =>
        have H := HA.out
        clear HA
        simp only [tinselref09_Join.l0] at H
        by_cases c6 : x18_1 < (l1.length : Int)
        · rw [if_pos c6] at H
          have c6b0 : decide (x18_1 < (l1.length : Int)) = true := decide_eq_true c6
          clear c6
          by_cases c7 : 0 ≤ x18_1
          · rw [if_pos c7] at H
            have c7b0 : decide (0 ≤ x18_1) = true := decide_eq_true c7
            clear c7
            by_cases c8 : x18_1 < (l1.length : Int)
            · rw [if_pos c8] at H
              have c8b0 : decide (x18_1 < (l1.length : Int)) = true := decide_eq_true c8
              clear c8
              by_cases c9 : (((rd_T67 l1 x18_1).f0).size : Int) = 1
              · rw [if_pos c9] at H
                have c9b0 : ((((rd_T67 l1 x18_1).f0).size : Int) == 1) = true := beq_iff_eq.mpr c9
                have c9b1 : ((((rd_T67 l1 x18_1).f0).size : Int) != 1) = false := bne_eq_false_iff_eq.mpr c9
                clear c9
                by_cases c10 : 0 < (((rd_T67 l1 x18_1).f0).size : Int)
                · rw [if_pos c10] at H
                  have c10b0 : decide (0 < (((rd_T67 l1 x18_1).f0).size : Int)) = true := decide_eq_true c10
                  have c10b1 : decide (0 < ((rd_T67 l1 x18_1).f0).size) = true := decide_eq_true (by omega)
                  clear c10
                  replace H := Option.bind_eq_some_iff.mp H
                  obtain ⟨⟨t231, t232⟩, A120, H⟩ := H
                  replace H : (if t231 = true then (if t232 = true then (tinselref09_Join.j1 k1 a0 l2 x8_1 t232 l1 (l1.length : Int) x18_1 false ((rd_T67 l1 x18_1).f0) ((rd_T67 l1 x18_1).f1)) else (tinselref09_Join.j1 k1 a0 l2 x8_1 t232 l1 (l1.length : Int) x18_1 (((rd_T67 l1 x18_1).f1).toList != ([] : List UInt8)) ((rd_T67 l1 x18_1).f0) ((rd_T67 l1 x18_1).f1))) else (tinselref09_Join.j1 k1 a0 l2 x8_1 t232 l1 (l1.length : Int) x18_1 true ((rd_T67 l1 x18_1).f0) ((rd_T67 l1 x18_1).f1))) = some (r1, r2) := H
                  have A12 := Aside0.mk A120
                  clear A120
                  have HC13 := Aside0.mk H
                  clear H
                  have p229 : 0 ≤ (x18_1 : Int) := of_decide_eq_true (by first | (with_reducible assumption) | assumption)
                  have q229 : x18_1 < (l1.length : Int) := of_decide_eq_true (by first | (with_reducible assumption) | assumption)
                  obtain ⟨ad229, e229, hx229_0, hx229_1⟩ := at_T67 HR1.out x18_1 p229 q229
                  cases e229
                  replace hx229_0 := (HB.out.cell (World.block_lt_of_cell? w _ hx229_0)).trans hx229_0
                  replace hx229_1 := (HB.out.cell (World.block_lt_of_cell? w _ hx229_1)).trans hx229_1
                  replace p229 := eq_true p229
                  replace q229 := eq_true q229
                  go_upto_region 10 with (first | ((with_reducible refine gate_dst (N := 10) rfl ?_); refine box_event ?hg (N := 10) ?hd (cs := #[.string (⟨#[]⟩ : ByteArray), .string (⟨#[]⟩ : ByteArray)]) (t := 67) ?hr ?_; (case hd => rfl); (case hg => rfl); (case hr => first | (go_simp; done) | (go_simp; rfl)); intro gb230 hg w14 hbox hb; have n0_ := Aside0.mk (Kd.R_below (by (with_reducible repeat (first | apply Kd.R_alloc | apply Kd.R_drewN | apply Kd.R_drew)); exact HO_8.out) hb); have n1_ := Aside0.mk (below_step (by repeat (first | (with_reducible first | exact HB.out | apply below_alloc | apply pw_below_drewN | apply below_drew1) | exact HB.out)) hb); have n2_ := Aside0.mk (hbox); have n3_ := Aside0.mk ((by rw [hg]; exact (below_size (by repeat (first | (with_reducible first | exact HB.out | apply below_alloc | apply pw_below_drewN | apply below_drew1) | exact HB.out))) : w.heap.size ≤ gb230)); have n4_ := Aside0.mk ((by rw [hg]; exact (below_size (by repeat (first | (with_reducible first | exact HB.out | apply below_alloc | apply pw_below_drewN | apply below_drew1) | exact HB.out))) : w.heap.size ≤ gb230)); clear HO_8; clear HB; have HO_8 := n0_; have HB := n1_; have BK230 := n2_; have GW230 := n3_; have GE230 := n4_; clear n0_ n1_ n2_ n3_ n4_; clear hb hbox hg; have hcz15_0 : w14.cell? ⟨gb230, 0, none⟩ = some (.string (⟨#[]⟩ : ByteArray)) := (blk_cell BK230.out 0).trans rfl; have hcz15_1 : w14.cell? ⟨gb230, 1, none⟩ = some (.string (⟨#[]⟩ : ByteArray)) := (blk_cell BK230.out 1).trans rfl; have hfz15_0 := blk_frozen BK230.out 0; have hfz15_1 := blk_frozen BK230.out 1; have p11 : 0 ≤ (0 : Int) := (by omega); have q11 : 0 < ((rd_T67 l1 x18_1).f0).size := (by have : (0 : Int) < (((rd_T67 l1 x18_1).f0).size : Int) := of_decide_eq_true (by first | (with_reducible assumption) | assumption); omega); have hx11 : ∀ h : 0 < ((rd_T67 l1 x18_1).f0).size, ((((rd_T67 l1 x18_1).f0)[0]'h).toNat : Int) = bt ((rd_T67 l1 x18_1).f0) 0 := bt_at ((rd_T67 l1 x18_1).f0) 0; clear p11; have qi11 : (0 < (((rd_T67 l1 x18_1).f0).size : Int)) = True := eq_true (of_decide_eq_true (by first | (with_reducible assumption) | assumption)); replace q11 := eq_true q11) | ((with_reducible refine gate_callee (f := 30) rfl ?_); refine goesL_ (some 31) rfl rfl Try.func30 (by kernel_rfl) rfl #[.string a0, .int .u8 (bt ((rd_T67 l1 x18_1).f0) 0)] rfl (by (try simp only [List.map_toArray, List.map_cons, List.map_nil]); first | done | rfl | (simp only [List.length_drop, List.length_take]; rfl)) ?_; (with_reducible refine (tinselref09_takes.calls k1 a0 (bt ((rd_T67 l1 x18_1).f0) 0) t231 t232 _ A12.out).mono ?_); rintro e w' ⟨rfl, ⟨nd, rfl⟩⟩; refine ⟨_, rfl, ?_⟩))
                  (try simp only [Act.put, List.setIfInBounds_toArray, List.set_cons_zero, List.set_cons_succ])
                  go_cut [44] (fun v44 wc => ∃ (kq : Nat) (x44_12 : Bool), v44 = .bool x44_12 ∧ Aside0 (tinselref09_Join.j1 kq a0 l2 x8_1 t232 l1 (l1.length : Int) x18_1 x44_12 ((rd_T67 l1 x18_1).f0) ((rd_T67 l1 x18_1).f1) = some (r1, r2)) ∧ Aside0 (kq ≤ k1) ∧ Aside0 (Kd.R Kd.string 9 wc w.heap.size (fun _ => True) u8 x8_1) ∧ Aside0 (wc.heap[gb230]? = some (.cells #[.string ((rd_T67 l1 x18_1).f0), .string ((rd_T67 l1 x18_1).f1)] 67 (0, 0))) ∧ Aside0 (Below w.heap.size w wc))
                  case first =>
                    have H := HC13.out
                    clear HC13
                    by_cases c16 : t231 = true
                    · subst c16
                      have H1 : (if t232 = true then (tinselref09_Join.j1 k1 a0 l2 x8_1 t232 l1 (l1.length : Int) x18_1 false ((rd_T67 l1 x18_1).f0) ((rd_T67 l1 x18_1).f1)) else (tinselref09_Join.j1 k1 a0 l2 x8_1 t232 l1 (l1.length : Int) x18_1 (((rd_T67 l1 x18_1).f1).toList != ([] : List UInt8)) ((rd_T67 l1 x18_1).f0) ((rd_T67 l1 x18_1).f1))) = some (r1, r2) := by rw [if_pos rfl] at H; exact H
                      clear H
                      have H := H1
                      clear H1
                      by_cases c17 : t232 = true
                      · subst c17
                        have H1 : (tinselref09_Join.j1 k1 a0 l2 x8_1 true l1 (l1.length : Int) x18_1 false ((rd_T67 l1 x18_1).f0) ((rd_T67 l1 x18_1).f1)) = some (r1, r2) := by rw [if_pos rfl] at H; exact H
                        clear H
                        have H := H1
                        clear H1
                        have H' := Aside0.mk H
                        clear H
                        go_wp2
                        go_meet
                        case rel => exact ⟨_, (false), (by first | rfl | (simp; done) | (simp [*]; done)), H', ⟨by have := HK1.out; first | omega | exact Nat.le_refl _⟩, ⟨by (with_reducible repeat (first | apply Kd.R_alloc | apply Kd.R_drewN | apply Kd.R_drew)); exact Kd.R_mono (Kd.R_far (p := ⟨gb230, 1, none⟩) (Kd.R_far (p := ⟨gb230, 0, none⟩) (Kd.R_types HO_8.out BK230.out (by decide)) (fun _ hk => hk.2) (.string ((rd_T67 l1 x18_1).f0))) (fun _ hk => hk.2) (.string ((rd_T67 l1 x18_1).f1))) (fun _ hk => trivial)⟩, ⟨by (with_reducible repeat (first | refine blk_drewN ?_ _ | refine blk_drew ?_ | refine blk_alloc ?_ _)); refine blk_put (cs := #[.string ((rd_T67 l1 x18_1).f0), .string (⟨#[]⟩ : ByteArray)]) ?_ 1 _ rfl; (with_reducible repeat (first | refine blk_drewN ?_ _ | refine blk_drew ?_ | refine blk_alloc ?_ _)); refine blk_put (cs := #[.string (⟨#[]⟩ : ByteArray), .string (⟨#[]⟩ : ByteArray)]) ?_ 0 _ rfl; (with_reducible repeat (first | refine blk_drewN ?_ _ | refine blk_drew ?_ | refine blk_alloc ?_ _)); exact BK230.out⟩, ⟨by repeat (first | (with_reducible first | exact HB.out | apply below_alloc | apply pw_below_drewN | apply below_drew1 | refine below_set ?_ GE230.out) | exact HB.out)⟩⟩
                      · replace c17 := Bool.eq_false_iff.mpr c17
                        subst c17
                        have H1 : (tinselref09_Join.j1 k1 a0 l2 x8_1 false l1 (l1.length : Int) x18_1 (((rd_T67 l1 x18_1).f1).toList != ([] : List UInt8)) ((rd_T67 l1 x18_1).f0) ((rd_T67 l1 x18_1).f1)) = some (r1, r2) := by rw [if_neg (show ¬ (false = true) by decide)] at H; exact H
                        clear H
                        have H := H1
                        clear H1
                        have H' := Aside0.mk H
                        clear H
                        have hcz18_0 : w14.cell? ⟨gb230, 0, none⟩ = some (.string (⟨#[]⟩ : ByteArray)) := (blk_cell BK230.out 0).trans rfl
                        have hcz18_1 : w14.cell? ⟨gb230, 1, none⟩ = some (.string (⟨#[]⟩ : ByteArray)) := (blk_cell BK230.out 1).trans rfl
                        have hfz18_0 := blk_frozen BK230.out 0
                        have hfz18_1 := blk_frozen BK230.out 1
                        go_wp2
                        go_meet
                        case rel => exact ⟨_, ((((rd_T67 l1 x18_1).f1).toList != ([] : List UInt8))), (by first | rfl | (simp; done) | (congr 1; generalize (rd_T67 l1 x18_1).f1.toList = z; cases z <;> rfl) | (simp [*]; done)), H', ⟨by have := HK1.out; first | omega | exact Nat.le_refl _⟩, ⟨by (with_reducible repeat (first | apply Kd.R_alloc | apply Kd.R_drewN | apply Kd.R_drew)); exact Kd.R_mono (Kd.R_far (p := ⟨gb230, 1, none⟩) (Kd.R_far (p := ⟨gb230, 0, none⟩) (Kd.R_types HO_8.out BK230.out (by decide)) (fun _ hk => hk.2) (.string ((rd_T67 l1 x18_1).f0))) (fun _ hk => hk.2) (.string ((rd_T67 l1 x18_1).f1))) (fun _ hk => trivial)⟩, ⟨by (with_reducible repeat (first | refine blk_drewN ?_ _ | refine blk_drew ?_ | refine blk_alloc ?_ _)); refine blk_put (cs := #[.string ((rd_T67 l1 x18_1).f0), .string (⟨#[]⟩ : ByteArray)]) ?_ 1 _ rfl; (with_reducible repeat (first | refine blk_drewN ?_ _ | refine blk_drew ?_ | refine blk_alloc ?_ _)); refine blk_put (cs := #[.string (⟨#[]⟩ : ByteArray), .string (⟨#[]⟩ : ByteArray)]) ?_ 0 _ rfl; (with_reducible repeat (first | refine blk_drewN ?_ _ | refine blk_drew ?_ | refine blk_alloc ?_ _)); exact BK230.out⟩, ⟨by repeat (first | (with_reducible first | exact HB.out | apply below_alloc | apply pw_below_drewN | apply below_drew1 | refine below_set ?_ GE230.out) | exact HB.out)⟩⟩
                    · replace c16 := Bool.eq_false_iff.mpr c16
                      subst c16
                      have H1 : (tinselref09_Join.j1 k1 a0 l2 x8_1 t232 l1 (l1.length : Int) x18_1 true ((rd_T67 l1 x18_1).f0) ((rd_T67 l1 x18_1).f1)) = some (r1, r2) := by rw [if_neg (show ¬ (false = true) by decide)] at H; exact H
                      clear H
                      have H := H1
                      clear H1
                      have H' := Aside0.mk H
                      clear H
                      go_wp2
                      go_meet
                      case rel => exact ⟨_, (true), (by first | rfl | (simp; done) | (simp [*]; done)), H', ⟨by have := HK1.out; first | omega | exact Nat.le_refl _⟩, ⟨by (with_reducible repeat (first | apply Kd.R_alloc | apply Kd.R_drewN | apply Kd.R_drew)); exact Kd.R_mono (Kd.R_far (p := ⟨gb230, 1, none⟩) (Kd.R_far (p := ⟨gb230, 0, none⟩) (Kd.R_types HO_8.out BK230.out (by decide)) (fun _ hk => hk.2) (.string ((rd_T67 l1 x18_1).f0))) (fun _ hk => hk.2) (.string ((rd_T67 l1 x18_1).f1))) (fun _ hk => trivial)⟩, ⟨by (with_reducible repeat (first | refine blk_drewN ?_ _ | refine blk_drew ?_ | refine blk_alloc ?_ _)); refine blk_put (cs := #[.string ((rd_T67 l1 x18_1).f0), .string (⟨#[]⟩ : ByteArray)]) ?_ 1 _ rfl; (with_reducible repeat (first | refine blk_drewN ?_ _ | refine blk_drew ?_ | refine blk_alloc ?_ _)); refine blk_put (cs := #[.string (⟨#[]⟩ : ByteArray), .string (⟨#[]⟩ : ByteArray)]) ?_ 0 _ rfl; (with_reducible repeat (first | refine blk_drewN ?_ _ | refine blk_drew ?_ | refine blk_alloc ?_ _)); exact BK230.out⟩, ⟨by repeat (first | (with_reducible first | exact HB.out | apply below_alloc | apply pw_below_drewN | apply below_drew1 | refine below_set ?_ GE230.out) | exact HB.out)⟩⟩
                  case rest =>
                    clear HC13
                    try clear c1
                    try clear p1
                    try clear q1
                    try clear hx1
                    try clear qi1
                    try clear c2
                    try clear p2
                    try clear q2
                    try clear hx2
                    try clear c3
                    try clear c5
                    try clear c6
                    try clear c6b0
                    try clear c7
                    try clear c7b0
                    try clear c8
                    try clear c8b0
                    try clear c9
                    try clear c9b0
                    try clear c9b1
                    try clear c10
                    try clear c10b0
                    try clear c10b1
                    try clear p11
                    try clear q11
                    try clear hx11
                    try clear qi11
                    try clear c14
                    try clear c16
                    try clear c17
                    try clear hcz15_0
                    try clear hcz15_1
                    try clear hcz18_0
                    try clear hcz18_1
                    try clear hfz15_0
                    try clear hfz15_1
                    try clear hfz18_0
                    try clear hfz18_1
                    try clear hx229_0
                    try clear hx229_1
                    try clear p11
                    try clear p2
                    try clear p229
                    try clear q11
                    try clear q229
                    obtain ⟨kq, x44_12, rfl, HA, HJ12, HO_8, BK230, HB⟩ := hcut
                    cases kq with
                    | zero => exact absurd HA.out (by simp [tinselref09_Join.j1])
                    | succ kj12 =>
                      have H := HA.out
                      clear HA
                      simp only [tinselref09_Join.j1] at H
                      by_cases c19 : x44_12 = true
                      · subst c19
                        have H1 : (some (([] : List ByteArray), 22)) = some (r1, r2) := by rw [if_pos rfl] at H; exact H
                        clear H
                        have H := H1
                        clear H1
                        simp only [Option.some.injEq, Prod.mk.injEq] at H
                        obtain ⟨rfl, rfl⟩ := H
                        go_wp2
                        go_ret2
                        exact ⟨_, by first | rfl | (simp [errW_none, errW_some] <;> rfl) | (simp [*, errW_none, errW_some] <;> rfl), by first | exact Kd.R_nil _ _ _ _ _ | exact Kd.N_nil _ _ _ _ _ | exact Kd.V_nil _ _ _ _ _ | exact Kd.Q_nil _ _ _ _ _ | exact Kd.S_nil _ _ _ _ _, by repeat (first | (with_reducible first | exact HB.out | apply below_alloc | apply pw_below_drewN | apply below_drew1 | refine below_set ?_ GE230.out) | exact HB.out)⟩
                      · replace c19 := Bool.eq_false_iff.mpr c19
                        subst c19
                        have H1 : (if 1 + ((rd_T67 l1 x18_1).f0).size ≤ 9223372036854775807 then (if x8_1.length < 8796093022208 then ((some (x8_1 ++ [(⟨#[45]⟩ : ByteArray) ++ ((rd_T67 l1 x18_1).f0)] : List ByteArray)).bind fun y233 => (if t232 = true then (if y233.length < 8796093022208 then (tinselref09_Join.l0 kj12 a0 l2 (y233 ++ [((rd_T67 l1 x18_1).f1)]) l1 (l1.length : Int) (wrap64 (x18_1 + 1))) else (none)) else (tinselref09_Join.l0 kj12 a0 l2 y233 l1 (l1.length : Int) (wrap64 (x18_1 + 1))))) else (none)) else (none)) = some (r1, r2) := by rw [if_neg (show ¬ (false = true) by decide)] at H; exact H
                        clear H
                        have H := H1
                        clear H1
                        by_cases c20 : 1 + ((rd_T67 l1 x18_1).f0).size ≤ 9223372036854775807
                        · rw [if_pos c20] at H
                          have c20b0 := eq_true c20
                          have c20b1 : decide (1 + ((rd_T67 l1 x18_1).f0).size ≤ 9223372036854775807) = true := decide_eq_true c20
                          try have c20b2 : (9223372036854775807 < 1 + ((rd_T67 l1 x18_1).f0).size) = False := eq_false (Nat.not_lt.2 c20)
                          by_cases c21 : x8_1.length < 8796093022208
                          · rw [if_pos c21] at H
                            have LMc21 := Aside0.mk c21
                            clear c21
                            obtain ⟨y233, hy233⟩ : ∃ y_ : List ByteArray, y_ = (x8_1 ++ [(⟨#[45]⟩ : ByteArray) ++ ((rd_T67 l1 x18_1).f0)]) := ⟨_, rfl⟩
                            replace H : (if t232 = true then (if y233.length < 8796093022208 then (tinselref09_Join.l0 kj12 a0 l2 (y233 ++ [((rd_T67 l1 x18_1).f1)]) l1 (l1.length : Int) (wrap64 (x18_1 + 1))) else (none)) else (tinselref09_Join.l0 kj12 a0 l2 y233 l1 (l1.length : Int) (wrap64 (x18_1 + 1)))) = some (r1, r2) := by first | (rw [hy233]; with_reducible exact H) | (have H2_ := (Option.bind_some _ _).symm.trans H; rw [hy233]; with_reducible exact H2_) | (have H2_ := (Option.bind_some _ _).symm.trans H; with_reducible exact H2_) | with_reducible exact H | (rw [hy233]; exact H) | exact H
                            have Ny233 := Aside0.mk hy233
                            clear hy233
                            by_cases c22 : t232 = true
                            · subst c22
                              have H1 : (if y233.length < 8796093022208 then (tinselref09_Join.l0 kj12 a0 l2 (y233 ++ [((rd_T67 l1 x18_1).f1)]) l1 (l1.length : Int) (wrap64 (x18_1 + 1))) else (none)) = some (r1, r2) := by rw [if_pos rfl] at H; exact H
                              clear H
                              have H := H1
                              clear H1
                              by_cases c23 : y233.length < 8796093022208
                              · rw [if_pos c23] at H
                                have LMc23 := Aside0.mk c23
                                clear c23
                                obtain ⟨y236, hy236⟩ : ∃ y_ : List ByteArray, y_ = (y233 ++ [((rd_T67 l1 x18_1).f1)]) := ⟨_, rfl⟩
                                replace H : (tinselref09_Join.l0 kj12 a0 l2 y236 l1 (l1.length : Int) (wrap64 (x18_1 + 1))) = some (r1, r2) := by first | (rw [hy236]; with_reducible exact H) | (have H2_ := (Option.bind_some _ _).symm.trans H; rw [hy236]; with_reducible exact H2_) | (have H2_ := (Option.bind_some _ _).symm.trans H; with_reducible exact H2_) | with_reducible exact H | (rw [hy236]; exact H) | exact H
                                have Ny236 := Aside0.mk hy236
                                clear hy236
                                have H' := Aside0.mk H
                                clear H
                                have hcz24_0 : wc.cell? ⟨gb230, 0, none⟩ = some (.string ((rd_T67 l1 x18_1).f0)) := (blk_cell BK230.out 0).trans rfl
                                have hcz24_1 : wc.cell? ⟨gb230, 1, none⟩ = some (.string ((rd_T67 l1 x18_1).f1)) := (blk_cell BK230.out 1).trans rfl
                                have hfz24_0 := blk_frozen BK230.out 0
                                have hfz24_1 := blk_frozen BK230.out 1
                                go_wp2_with (first | ((with_reducible refine gate_builtin (b := .append) (xs := #[.tmp 45, .tmp 49]) rfl ?_); at_builtin; refine Kd.R_append Kd.string (w0 := w) w.heap.size rfl (.tmp 45) (.tmp 49) 22 9 (.string ⟨#[]⟩) 16 rfl Try.underlying22 info9 rfl (by decide) (by omega) u8 x8_1 ((⟨#[45]⟩ : ByteArray) ++ ((rd_T67 l1 x18_1).f0)) [.string ((⟨#[45]⟩ : ByteArray) ++ ((rd_T67 l1 x18_1).f0))] (fun _ => True) (fun _ => False) rfl rfl ?aP (fun _ hk => hk.elim) ?aF ?aO ?aB ?aS ?aL ?_; (case aP => exact rfl); (case aB => exact (by repeat (first | (with_reducible first | exact HB.out | apply below_alloc | apply pw_below_drewN | apply below_drew1 | refine below_set ?_ GE230.out) | exact HB.out))); (case aF => exact (fun _ _ => trivial)); (case aO => exact (by (with_reducible repeat (first | apply Kd.R_alloc | apply Kd.R_drewN | apply Kd.R_drew)); exact HO_8.out)); (case aS => exact (below_size (by repeat (first | (with_reducible first | exact HB.out | apply below_alloc | apply pw_below_drewN | apply below_drew1 | refine below_set ?_ GE230.out) | exact HB.out)))); (case aL => have := LMc21.out; omega); intro v234 w25 ho hb hg hat; rw [← Ny233.out] at ho; have n0_ := Aside0.mk (blk_grown (g := gb230) (o := .cells #[.string ((rd_T67 l1 x18_1).f0), .string ((rd_T67 l1 x18_1).f1)] 67 (0, 0)) (by (with_reducible repeat (first | refine blk_drewN ?_ _ | refine blk_drew ?_ | refine blk_alloc ?_ _)); exact BK230.out) hg (Kd.R_ne HO_8.out BK230.out (by decide))); have n1_ := Aside0.mk (hb); have n2_ := Aside0.mk (ho); clear BK230; clear HB; clear HO_8; have BK230 := n0_; have HB := n1_; have HO235 := n2_; clear n0_ n1_ n2_; clear ho hb hg hat; have hcz26_0 : w25.cell? ⟨gb230, 0, none⟩ = some (.string ((rd_T67 l1 x18_1).f0)) := (blk_cell BK230.out 0).trans rfl; have hcz26_1 : w25.cell? ⟨gb230, 1, none⟩ = some (.string ((rd_T67 l1 x18_1).f1)) := (blk_cell BK230.out 1).trans rfl; have hfz26_0 := blk_frozen BK230.out 0; have hfz26_1 := blk_frozen BK230.out 1) | ((with_reducible refine gate_builtin (b := .append) (xs := #[.tmp 52, .tmp 55]) rfl ?_); at_builtin; refine Kd.R_append Kd.string (w0 := w) w.heap.size rfl (.tmp 52) (.tmp 55) 22 9 (.string ⟨#[]⟩) 16 rfl Try.underlying22 info9 rfl (by decide) (by omega) v234 y233 ((rd_T67 l1 x18_1).f1) [.string ((rd_T67 l1 x18_1).f1)] (fun _ => True) (fun _ => False) rfl rfl ?aP (fun _ hk => hk.elim) ?aF ?aO ?aB ?aS ?aL ?_; (case aP => exact rfl); (case aB => exact (by repeat (first | (with_reducible first | exact HB.out | apply below_alloc | apply pw_below_drewN | apply below_drew1 | refine below_set ?_ GE230.out) | exact HB.out))); (case aF => exact (fun _ _ => trivial)); (case aO => exact (by (with_reducible repeat (first | apply Kd.R_alloc | apply Kd.R_drewN | apply Kd.R_drew)); exact HO235.out)); (case aS => exact (below_size (by repeat (first | (with_reducible first | exact HB.out | apply below_alloc | apply pw_below_drewN | apply below_drew1 | refine below_set ?_ GE230.out) | exact HB.out)))); (case aL => have := LMc23.out; omega); intro v237 w27 ho hb hg hat; rw [← Ny236.out] at ho; have n0_ := Aside0.mk (blk_grown (g := gb230) (o := .cells #[.string ((rd_T67 l1 x18_1).f0), .string ((rd_T67 l1 x18_1).f1)] 67 (0, 0)) (by (with_reducible repeat (first | refine blk_drewN ?_ _ | refine blk_drew ?_ | refine blk_alloc ?_ _)); exact BK230.out) hg (Kd.R_ne HO235.out BK230.out (by decide))); have n1_ := Aside0.mk (hb); have n2_ := Aside0.mk (ho); clear BK230; clear HB; clear HO235; have BK230 := n0_; have HB := n1_; have HO238 := n2_; clear n0_ n1_ n2_; clear ho hb hg hat))
                                go_roundg kj12
                                case measure => have := HK1.out; have := HJ12.out; omega
                                case rel => exact ⟨(y236), (wrap64 (x18_1 + 1)), (by first | rfl | (simp; done) | (simp [*]; done)), H', ⟨by have := HK1.out; have := HJ12.out; omega⟩, ⟨by (with_reducible repeat (first | apply Kd.R_alloc | apply Kd.R_drewN | apply Kd.R_drew)); exact HO238.out⟩, ⟨by repeat (first | (with_reducible first | exact HB.out | apply below_alloc | apply pw_below_drewN | apply below_drew1 | refine below_set ?_ GE230.out) | exact HB.out)⟩⟩
                              · rw [if_neg c23] at H
                                exact absurd H (by simp)
                            · replace c22 := Bool.eq_false_iff.mpr c22
                              subst c22
                              have H1 : (tinselref09_Join.l0 kj12 a0 l2 y233 l1 (l1.length : Int) (wrap64 (x18_1 + 1))) = some (r1, r2) := by rw [if_neg (show ¬ (false = true) by decide)] at H; exact H
                              clear H
                              have H := H1
                              clear H1
                              have H' := Aside0.mk H
                              clear H
                              have hcz28_0 : wc.cell? ⟨gb230, 0, none⟩ = some (.string ((rd_T67 l1 x18_1).f0)) := (blk_cell BK230.out 0).trans rfl
                              have hcz28_1 : wc.cell? ⟨gb230, 1, none⟩ = some (.string ((rd_T67 l1 x18_1).f1)) := (blk_cell BK230.out 1).trans rfl
                              have hfz28_0 := blk_frozen BK230.out 0
                              have hfz28_1 := blk_frozen BK230.out 1
                              go_wp2_with (first | ((with_reducible refine gate_builtin (b := .append) (xs := #[.tmp 45, .tmp 49]) rfl ?_); at_builtin; refine Kd.R_append Kd.string (w0 := w) w.heap.size rfl (.tmp 45) (.tmp 49) 22 9 (.string ⟨#[]⟩) 16 rfl Try.underlying22 info9 rfl (by decide) (by omega) u8 x8_1 ((⟨#[45]⟩ : ByteArray) ++ ((rd_T67 l1 x18_1).f0)) [.string ((⟨#[45]⟩ : ByteArray) ++ ((rd_T67 l1 x18_1).f0))] (fun _ => True) (fun _ => False) rfl rfl ?aP (fun _ hk => hk.elim) ?aF ?aO ?aB ?aS ?aL ?_; (case aP => exact rfl); (case aB => exact (by repeat (first | (with_reducible first | exact HB.out | apply below_alloc | apply pw_below_drewN | apply below_drew1 | refine below_set ?_ GE230.out) | exact HB.out))); (case aF => exact (fun _ _ => trivial)); (case aO => exact (by (with_reducible repeat (first | apply Kd.R_alloc | apply Kd.R_drewN | apply Kd.R_drew)); exact HO_8.out)); (case aS => exact (below_size (by repeat (first | (with_reducible first | exact HB.out | apply below_alloc | apply pw_below_drewN | apply below_drew1 | refine below_set ?_ GE230.out) | exact HB.out)))); (case aL => have := LMc21.out; omega); intro v234 w29 ho hb hg hat; rw [← Ny233.out] at ho; have n0_ := Aside0.mk (blk_grown (g := gb230) (o := .cells #[.string ((rd_T67 l1 x18_1).f0), .string ((rd_T67 l1 x18_1).f1)] 67 (0, 0)) (by (with_reducible repeat (first | refine blk_drewN ?_ _ | refine blk_drew ?_ | refine blk_alloc ?_ _)); exact BK230.out) hg (Kd.R_ne HO_8.out BK230.out (by decide))); have n1_ := Aside0.mk (hb); have n2_ := Aside0.mk (ho); clear BK230; clear HB; clear HO_8; have BK230 := n0_; have HB := n1_; have HO235 := n2_; clear n0_ n1_ n2_; clear ho hb hg hat))
                              go_roundg kj12
                              case measure => have := HK1.out; have := HJ12.out; omega
                              case rel => exact ⟨(y233), (wrap64 (x18_1 + 1)), (by first | rfl | (simp; done) | (simp [*]; done)), H', ⟨by have := HK1.out; have := HJ12.out; omega⟩, ⟨by (with_reducible repeat (first | apply Kd.R_alloc | apply Kd.R_drewN | apply Kd.R_drew)); exact HO235.out⟩, ⟨by repeat (first | (with_reducible first | exact HB.out | apply below_alloc | apply pw_below_drewN | apply below_drew1 | refine below_set ?_ GE230.out) | exact HB.out)⟩⟩
                          · rw [if_neg c21] at H
                            exact absurd H (by simp)
                        · rw [if_neg c20] at H
                          exact absurd H (by simp)
                · rw [if_neg c10] at H
                  exact absurd H (by simp)
              · rw [if_neg c9] at H
                have c9b0 : ((((rd_T67 l1 x18_1).f0).size : Int) == 1) = false := beq_eq_false_iff_ne.mpr c9
                have c9b1 : ((((rd_T67 l1 x18_1).f0).size : Int) != 1) = true := bne_iff_ne.mpr c9
                simp only [Option.some.injEq, Prod.mk.injEq] at H
                obtain ⟨rfl, rfl⟩ := H
                have p229 : 0 ≤ (x18_1 : Int) := of_decide_eq_true (by first | (with_reducible assumption) | assumption)
                have q229 : x18_1 < (l1.length : Int) := of_decide_eq_true (by first | (with_reducible assumption) | assumption)
                obtain ⟨ad229, e229, hx229_0, hx229_1⟩ := at_T67 HR1.out x18_1 p229 q229
                cases e229
                replace hx229_0 := (HB.out.cell (World.block_lt_of_cell? w _ hx229_0)).trans hx229_0
                replace hx229_1 := (HB.out.cell (World.block_lt_of_cell? w _ hx229_1)).trans hx229_1
                replace p229 := eq_true p229
                replace q229 := eq_true q229
                go_wp2_with (first | ((with_reducible refine gate_dst (N := 10) rfl ?_); refine box_event ?hg (N := 10) ?hd (cs := #[.string (⟨#[]⟩ : ByteArray), .string (⟨#[]⟩ : ByteArray)]) (t := 67) ?hr ?_; (case hd => rfl); (case hg => rfl); (case hr => first | (go_simp; done) | (go_simp; rfl)); intro gb230 hg w30 hbox hb; have n0_ := Aside0.mk (Kd.R_below (by (with_reducible repeat (first | apply Kd.R_alloc | apply Kd.R_drewN | apply Kd.R_drew)); exact HO_8.out) hb); have n1_ := Aside0.mk (below_step (by repeat (first | (with_reducible first | exact HB.out | apply below_alloc | apply pw_below_drewN | apply below_drew1) | exact HB.out)) hb); have n2_ := Aside0.mk (hbox); have n3_ := Aside0.mk ((by rw [hg]; exact (below_size (by repeat (first | (with_reducible first | exact HB.out | apply below_alloc | apply pw_below_drewN | apply below_drew1) | exact HB.out))) : w.heap.size ≤ gb230)); have n4_ := Aside0.mk ((by rw [hg]; exact (below_size (by repeat (first | (with_reducible first | exact HB.out | apply below_alloc | apply pw_below_drewN | apply below_drew1) | exact HB.out))) : w.heap.size ≤ gb230)); clear HO_8; clear HB; have HO_8 := n0_; have HB := n1_; have BK230 := n2_; have GW230 := n3_; have GE230 := n4_; clear n0_ n1_ n2_ n3_ n4_; clear hb hbox hg; have hcz31_0 : w30.cell? ⟨gb230, 0, none⟩ = some (.string (⟨#[]⟩ : ByteArray)) := (blk_cell BK230.out 0).trans rfl; have hcz31_1 : w30.cell? ⟨gb230, 1, none⟩ = some (.string (⟨#[]⟩ : ByteArray)) := (blk_cell BK230.out 1).trans rfl; have hfz31_0 := blk_frozen BK230.out 0; have hfz31_1 := blk_frozen BK230.out 1))
                go_ret2
                exact ⟨_, by first | rfl | (simp [errW_none, errW_some] <;> rfl) | (simp [*, errW_none, errW_some] <;> rfl), by first | exact Kd.R_nil _ _ _ _ _ | exact Kd.N_nil _ _ _ _ _ | exact Kd.V_nil _ _ _ _ _ | exact Kd.Q_nil _ _ _ _ _ | exact Kd.S_nil _ _ _ _ _, by repeat (first | (with_reducible first | exact HB.out | apply below_alloc | apply pw_below_drewN | apply below_drew1 | refine below_set ?_ GE230.out) | exact HB.out)⟩
            · rw [if_neg c8] at H
              exact absurd H (by simp)
          · rw [if_neg c7] at H
            exact absurd H (by simp)
        · rw [if_neg c6] at H
          have c6b0 : decide (x18_1 < (l1.length : Int)) = false := decide_eq_false c6
          clear c6
          by_cases c32 : x8_1.length < 8796093022208
          · rw [if_pos c32] at H
            have LMc32 := Aside0.mk c32
            clear c32
            obtain ⟨y223, hy223⟩ : ∃ y_ : List ByteArray, y_ = (x8_1 ++ [(⟨#[45, 45]⟩ : ByteArray)]) := ⟨_, rfl⟩
            replace H : (if y223.length + l2.length < 8796093022208 then (some ((y223 ++ l2), 0)) else (none)) = some (r1, r2) := by first | (rw [hy223]; with_reducible exact H) | (have H2_ := (Option.bind_some _ _).symm.trans H; rw [hy223]; with_reducible exact H2_) | (have H2_ := (Option.bind_some _ _).symm.trans H; with_reducible exact H2_) | with_reducible exact H | (rw [hy223]; exact H) | exact H
            have Ny223 := Aside0.mk hy223
            clear hy223
            by_cases c33 : y223.length + l2.length < 8796093022208
            · rw [if_pos c33] at H
              have LMc33 := Aside0.mk c33
              clear c33
              obtain ⟨y226, hy226⟩ : ∃ y_ : List ByteArray, y_ = (y223 ++ l2) := ⟨_, rfl⟩
              replace H : (some (y226, 0)) = some (r1, r2) := by first | (rw [hy226]; with_reducible exact H) | (have H2_ := (Option.bind_some _ _).symm.trans H; rw [hy226]; with_reducible exact H2_) | (have H2_ := (Option.bind_some _ _).symm.trans H; with_reducible exact H2_) | with_reducible exact H | (rw [hy226]; exact H) | exact H
              have Ny226 := Aside0.mk hy226
              clear hy226
              simp only [Option.some.injEq, Prod.mk.injEq] at H
              obtain ⟨rfl, rfl⟩ := H
              go_wp2_with (first | ((with_reducible refine gate_builtin (b := .append) (xs := #[.tmp 58, .tmp 59]) rfl ?_); at_builtin; refine Kd.R_append Kd.string (w0 := w) w.heap.size rfl (.tmp 58) (.tmp 59) 22 9 (.string ⟨#[]⟩) 16 rfl Try.underlying22 info9 rfl (by decide) (by omega) u8 x8_1 (⟨#[45, 45]⟩ : ByteArray) [.string (⟨#[45, 45]⟩ : ByteArray)] (fun _ => True) (fun _ => False) rfl rfl ?aP (fun _ hk => hk.elim) ?aF ?aO ?aB ?aS ?aL ?_; (case aP => exact rfl); (case aB => exact (by repeat (first | (with_reducible first | exact HB.out | apply below_alloc | apply pw_below_drewN | apply below_drew1) | exact HB.out))); (case aF => exact (fun _ _ => trivial)); (case aO => exact (by (with_reducible repeat (first | apply Kd.R_alloc | apply Kd.R_drewN | apply Kd.R_drew)); exact HO_8.out)); (case aS => exact (below_size (by repeat (first | (with_reducible first | exact HB.out | apply below_alloc | apply pw_below_drewN | apply below_drew1) | exact HB.out)))); (case aL => have := LMc32.out; omega); intro v224 w34 ho hb hg hat; rw [← Ny223.out] at ho; have n0_ := Aside0.mk (hb); have n1_ := Aside0.mk (ho); clear HB; clear HO_8; have HB := n0_; have HO225 := n1_; clear n0_ n1_; clear ho hb hg hat) | ((with_reducible refine gate_builtin (b := .append) (xs := #[.tmp 61, .tmp 62]) rfl ?_); at_builtin; refine Kd.R_append_rows Kd.string (w0 := w) w.heap.size rfl (.tmp 61) (.tmp 62) 22 9 (.string ⟨#[]⟩) 16 rfl Try.underlying22 info9 rfl (by decide) (by omega) v224 y223 l2 _ _ _ (fun _ => True) (fun _ => False) rfl rfl ?aO ?aR (fun _ _ h => h) (fun _ h => h.elim) ?aF ?aB ?aS ?aL ?_; (case aR => repeat (first | exact (Kd.C_below HR2.out HB.out) | (with_reducible refine Kd.C_alloc ?_ _) | (with_reducible refine Kd.C_drewN ?_ _) | (with_reducible refine Kd.C_drew ?_))); (case aB => exact (by repeat (first | (with_reducible first | exact HB.out | apply below_alloc | apply pw_below_drewN | apply below_drew1) | exact HB.out))); (case aF => exact (fun _ _ => trivial)); (case aO => exact (by (with_reducible repeat (first | apply Kd.R_alloc | apply Kd.R_drewN | apply Kd.R_drew)); exact HO225.out)); (case aS => exact (below_size (by repeat (first | (with_reducible first | exact HB.out | apply below_alloc | apply pw_below_drewN | apply below_drew1) | exact HB.out)))); (case aL => have := LMc33.out; omega); intro v227 w35 ho hb hg hat; rw [← Ny226.out] at ho; have n0_ := Aside0.mk (hb); have n1_ := Aside0.mk (ho); clear HB; clear HO225; have HB := n0_; have HO228 := n1_; clear n0_ n1_; clear ho hb hg hat))
              go_ret2
              exact ⟨_, by first | rfl | (simp [errW_none, errW_some] <;> rfl) | (simp [*, errW_none, errW_some] <;> rfl), by (with_reducible repeat (first | apply Kd.R_alloc | apply Kd.R_drewN | apply Kd.R_drew)); exact HO228.out, by repeat (first | (with_reducible first | exact HB.out | apply below_alloc | apply pw_below_drewN | apply below_drew1) | exact HB.out)⟩
            · rw [if_neg c33] at H
              exact absurd H (by simp)
          · rw [if_neg c32] at H
            exact absurd H (by simp)
  · replace c5 := Bool.eq_false_iff.mpr c5
    subst c5
    have H1 : (some (([] : List ByteArray), 22)) = some (r1, r2) := by rw [if_neg (show ¬ (false = true) by decide)] at H; exact H
    clear H
    have H := H1
    clear H1
    simp only [Option.some.injEq, Prod.mk.injEq] at H
    obtain ⟨rfl, rfl⟩ := H
    go_enter Try.func14, Try.ntmps14
    go_wp2_with (first | ((with_reducible refine gate_callee (f := 29) rfl ?_); refine goesL_ (some 14) rfl rfl Try.func29 (by kernel_rfl) rfl #[.string a0] rfl (by (try simp only [List.map_toArray, List.map_cons, List.map_nil]); first | done | rfl | (simp only [List.length_drop, List.length_take]; rfl)) ?_; (with_reducible refine (tinselref09_Spec.calls k a0 false _ A4.out).mono ?_); rintro e w' ⟨rfl, ⟨nd, rfl⟩⟩; refine ⟨_, rfl, ?_⟩))
    go_ret2
    exact ⟨_, by first | rfl | (simp [errW_none, errW_some] <;> rfl) | (simp [*, errW_none, errW_some] <;> rfl), by first | exact Kd.R_nil _ _ _ _ _ | exact Kd.N_nil _ _ _ _ _ | exact Kd.V_nil _ _ _ _ _ | exact Kd.Q_nil _ _ _ _ _ | exact Kd.S_nil _ _ _ _ _, by repeat (first | (with_reducible first | exact HB.out | apply below_alloc | apply pw_below_drewN | apply below_drew1) | exact HB.out)⟩

end Go.Proofs.Ytcmicndmaaaknaa.G


-- Made by a program of this session out of the translation; Lean checks it.
namespace Go.Proofs.Ytcmicndmaaaknaa.G
open Go.RowKit Go.Proofs.YtcmicndmaaaknaaW.PrintWords Go.Proofs.YtcmicndmaaaknaaW.PrintLast Go.Proofs.YtcmicndmaaaknaaW.PrintMore
attribute [local go_sem] max2_int min2_int max_two min_two max_three min_three max_four min_four   -- for this text's walks alone
set_option linter.unusedVariables false
set_option linter.unusedSimpArgs false

/-! ### tinsellaw09_GetoptJoins: function 4 -/
def tinsellaw09_GetoptJoins.f (k : Nat) (a0 : ByteArray) (l1 : List (S67)) (l2 : List ByteArray) : Option (Bool) := (getopt_Join.f a0 l1 l2).bind fun bt239 => ((tinselref09_Join.f k a0 l1 l2).bind fun bt243 => (if bt239.2 = bt243.2 then ((tinselref01_Texts.f k bt239.1 bt243.1).bind fun t247 => (if t247 = true then ((tinsellaw09_lives.f k).bind fun t248 => (some t248)) else (some false))) else (some false)))
theorem tinsellaw09_GetoptJoins.mono : ∀ a0 a1 a2 k, LeO (tinsellaw09_GetoptJoins.f k a0 a1 a2) (tinsellaw09_GetoptJoins.f (k + 1) a0 a1 a2) := by
  intro a0 a1 a2 k
  unfold tinsellaw09_GetoptJoins.f
  repeat' first
      | (with_reducible exact tinsellaw09_lives.mono _)
      | (with_reducible exact tinselref01_Texts.mono _ _ _)
      | (with_reducible exact tinselref09_Join.mono _ _ _ _)
      | (with_reducible exact LeO.refl _)
      | (with_reducible exact LeO.none _)
      | (with_reducible refine LeO.ite ?_ ?_)
      | (with_reducible refine LeO.bind ?_ (fun _ => ?_))
      | exact tinsellaw09_lives.mono _
      | exact tinselref01_Texts.mono _ _ _
      | exact tinselref09_Join.mono _ _ _ _
      | exact LeO.none _
      | refine LeO.ite ?_ ?_
      | refine LeO.bind ?_ (fun _ => ?_)
set_option maxHeartbeats 8000000 in
set_option maxRecDepth 100000 in
theorem tinsellaw09_GetoptJoins.calls (k : Nat) (a0 : ByteArray) (A1 : Option Addr) (c1 : Nat) (l1 : List (S67)) (A2 : Option Addr) (c2 : Nat) (l2 : List ByteArray) (r : Bool) (w : World) (hok : JoinOk w a0) (hr1 : Kd.C k67 w A1 l1.length l1) (hc1 : l1.length ≤ c1) (hr2 : Kd.C Kd.string w A2 l2.length l2) (hc2 : l2.length ≤ c2) (h : tinsellaw09_GetoptJoins.f k a0 l1 l2 = some r) :
    Calls Try.prog 4 #[.string a0, .slice A1 l1.length c1, .slice A2 l2.length c2] w fun e w' => e = .returned (.bool r) ∧ Below w.heap.size w w' := by
  have HOK := Aside0.mk hok
  clear hok
  have HR1 := Aside0.mk hr1
  have HC1 := Aside0.mk hc1
  clear hr1 hc1
  have HR2 := Aside0.mk hr2
  have HC2 := Aside0.mk hc2
  clear hr2 hc2
  have HB := Aside0.mk (Below.refl w.heap.size w)
  have H : ((getopt_Join.f a0 l1 l2).bind fun bt239 => ((tinselref09_Join.f k a0 l1 l2).bind fun bt243 => (if bt239.2 = bt243.2 then ((tinselref01_Texts.f k bt239.1 bt243.1).bind fun t247 => (if t247 = true then ((tinsellaw09_lives.f k).bind fun t248 => (some t248)) else (some false))) else (some false)))) = some r := h
  clear h
  replace H := Option.bind_eq_some_iff.mp H
  obtain ⟨⟨t239, t240⟩, A40, H⟩ := H
  replace H : ((tinselref09_Join.f k a0 l1 l2).bind fun bt243 => (if t240 = bt243.2 then ((tinselref01_Texts.f k t239 bt243.1).bind fun t247 => (if t247 = true then ((tinsellaw09_lives.f k).bind fun t248 => (some t248)) else (some false))) else (some false))) = some r := H
  have A4 := Aside0.mk A40
  clear A40
  replace H := Option.bind_eq_some_iff.mp H
  obtain ⟨⟨t243, t244⟩, A50, H⟩ := H
  replace H : (if t240 = t244 then ((tinselref01_Texts.f k t239 t243).bind fun t247 => (if t247 = true then ((tinsellaw09_lives.f k).bind fun t248 => (some t248)) else (some false))) else (some false)) = some r := H
  have A5 := Aside0.mk A50
  clear A50
  by_cases c6 : t240 = t244
  · rw [if_pos c6] at H
    have c6b0 : (t240 == t244) = true := beq_iff_eq.mpr c6
    have c6b1 : (t240 != t244) = false := bne_eq_false_iff_eq.mpr c6
    clear c6
    replace H := Option.bind_eq_some_iff.mp H
    obtain ⟨t247, A70, H⟩ := H
    replace H : (if t247 = true then ((tinsellaw09_lives.f k).bind fun t248 => (some t248)) else (some false)) = some r := H
    have A7 := Aside0.mk A70
    clear A70
    by_cases c8 : t247 = true
    · subst c8
      have H1 : ((tinsellaw09_lives.f k).bind fun t248 => (some t248)) = some r := by rw [if_pos rfl] at H; exact H
      clear H
      have H := H1
      clear H1
      replace H := Option.bind_eq_some_iff.mp H
      obtain ⟨t248, A90, H⟩ := H
      replace H : (some t248) = some r := H
      have A9 := Aside0.mk A90
      clear A90
      obtain rfl := Option.some.inj H
      go_enter Try.func4, Try.ntmps4
      go_wp2_with (first | ((with_reducible refine gate_callee (f := 13) rfl ?_); refine goesL_ (some 15) rfl rfl Try.func13 (by kernel_rfl) rfl #[.string a0, .slice A1 l1.length c1, .slice A2 l2.length c2] rfl (by (try simp only [List.map_toArray, List.map_cons, List.map_nil]); first | done | rfl | (simp only [List.length_drop, List.length_take]; rfl)) ?_; (with_reducible refine (getopt_Join.calls a0 _ _ l1 _ _ l2 t239 t240 _ ?side0 ?side1 ?side2 ?side3 ?side4 A4.out).mono ?_); (case side0 => exact HOK.out.below (by repeat (first | (with_reducible first | exact HB.out | apply below_alloc | apply pw_below_drewN | apply below_drew1) | exact HB.out))); (case side1 => repeat (first | exact HR1.out | (with_reducible refine Kd.C_alloc ?_ _) | (with_reducible refine Kd.C_drewN ?_ _) | (with_reducible refine Kd.C_drew ?_))); (case side2 => exact HC1.out); (case side3 => repeat (first | exact HR2.out | (with_reducible refine Kd.C_alloc ?_ _) | (with_reducible refine Kd.C_drewN ?_ _) | (with_reducible refine Kd.C_drew ?_))); (case side4 => exact HC2.out); rintro e w10 ⟨v241, rfl, ho0, hb⟩; refine ⟨_, rfl, ?_⟩; have n0_ := Aside0.mk (Kd.R_lower ho0 (below_size (by repeat (first | (with_reducible first | exact HB.out | apply below_alloc | apply pw_below_drewN | apply below_drew1) | exact HB.out)))); have n1_ := Aside0.mk (below_step (by repeat (first | (with_reducible first | exact HB.out | apply below_alloc | apply pw_below_drewN | apply below_drew1) | exact HB.out)) hb); clear HB; have HO242 := n0_; have HB := n1_; clear n0_ n1_; (try clear hb); (try clear hb2); (try clear hk); (try clear hi); (try clear ho0)) | ((with_reducible refine gate_callee (f := 14) rfl ?_); refine goesL_ (some 22) rfl rfl Try.func14 (by kernel_rfl) rfl #[.string a0, .slice A1 l1.length c1, .slice A2 l2.length c2] rfl (by (try simp only [List.map_toArray, List.map_cons, List.map_nil]); first | done | rfl | (simp only [List.length_drop, List.length_take]; rfl)) ?_; (with_reducible refine (tinselref09_Join.calls k a0 _ _ l1 _ _ l2 t243 t244 _ ?side1 ?side2 ?side3 ?side4 A5.out).mono ?_); (case side1 => repeat (first | exact (Kd.C_below HR1.out HB.out) | (with_reducible refine Kd.C_alloc ?_ _) | (with_reducible refine Kd.C_drewN ?_ _) | (with_reducible refine Kd.C_drew ?_))); (case side2 => exact HC1.out); (case side3 => repeat (first | exact (Kd.C_below HR2.out HB.out) | (with_reducible refine Kd.C_alloc ?_ _) | (with_reducible refine Kd.C_drewN ?_ _) | (with_reducible refine Kd.C_drew ?_))); (case side4 => exact HC2.out); rintro e w11 ⟨v245, rfl, ho0, hb⟩; refine ⟨_, rfl, ?_⟩; have n0_ := Aside0.mk (Kd.R_elder' (by (with_reducible repeat (first | apply Kd.R_alloc | apply Kd.R_drewN | apply Kd.R_drew)); exact HO242.out) (Kd.R_base ho0) hb); have n1_ := Aside0.mk (Kd.R_lower (Kd.R_new' ho0 (Kd.R_lt (by (with_reducible repeat (first | apply Kd.R_alloc | apply Kd.R_drewN | apply Kd.R_drew)); exact HO242.out))) (below_size (by repeat (first | (with_reducible first | exact HB.out | apply below_alloc | apply pw_below_drewN | apply below_drew1) | exact HB.out)))); have n2_ := Aside0.mk (below_step (by repeat (first | (with_reducible first | exact HB.out | apply below_alloc | apply pw_below_drewN | apply below_drew1) | exact HB.out)) hb); clear HO242; clear HB; have HO242 := n0_; have HO246 := n1_; have HB := n2_; clear n0_ n1_ n2_; (try clear hb); (try clear hb2); (try clear hk); (try clear hi); (try clear ho0); obtain ⟨Ao12, co12, eo12⟩ := Kd.R_slice HO242.out; subst eo12; obtain ⟨Ao13, co13, eo13⟩ := Kd.R_slice HO246.out; subst eo13) | (go_at_call 11; (with_reducible refine (tinselref01_Texts.calls k _ _ t239 _ _ t243 true _ ?side1 ?side2 ?side3 ?side4 A7.out).mono ?_); (case side1 => repeat (first | exact (Kd.R_reads' HO242.out).2.2 | (with_reducible refine Kd.C_alloc ?_ _) | (with_reducible refine Kd.C_drewN ?_ _) | (with_reducible refine Kd.C_drew ?_))); (case side2 => exact (Kd.R_reads' HO242.out).2.1); (case side3 => repeat (first | exact (Kd.R_reads' HO246.out).2.2 | (with_reducible refine Kd.C_alloc ?_ _) | (with_reducible refine Kd.C_drewN ?_ _) | (with_reducible refine Kd.C_drew ?_))); (case side4 => exact (Kd.R_reads' HO246.out).2.1); rintro e w' ⟨rfl, ⟨nd, rfl⟩⟩) | (go_at_call 12; (with_reducible refine (tinsellaw09_lives.calls k  t248 _ A9.out).mono ?_); rintro e w14 ⟨rfl, hb⟩; have n0_ := Aside0.mk (Kd.R_below (by (with_reducible repeat (first | apply Kd.R_alloc | apply Kd.R_drewN | apply Kd.R_drew)); exact HO242.out) hb); have n1_ := Aside0.mk (Kd.R_below (by (with_reducible repeat (first | apply Kd.R_alloc | apply Kd.R_drewN | apply Kd.R_drew)); exact HO246.out) hb); have n2_ := Aside0.mk (below_step (by repeat (first | (with_reducible first | exact HB.out | apply below_alloc | apply pw_below_drewN | apply below_drew1) | exact HB.out)) hb); clear HO242; clear HO246; clear HB; have HO242 := n0_; have HO246 := n1_; have HB := n2_; clear n0_ n1_ n2_; (try clear hb); (try clear hb2); (try clear hk); (try clear hi)))
      go_ret
      exact ⟨by first | rfl | (simp [errW_none, errW_some] <;> rfl) | (simp [*, errW_none, errW_some] <;> rfl), by repeat (first | (with_reducible first | exact HB.out | apply below_alloc | apply pw_below_drewN | apply below_drew1) | exact HB.out)⟩
    · replace c8 := Bool.eq_false_iff.mpr c8
      subst c8
      have H1 : (some false) = some r := by rw [if_neg (show ¬ (false = true) by decide)] at H; exact H
      clear H
      have H := H1
      clear H1
      obtain rfl := Option.some.inj H
      go_enter Try.func4, Try.ntmps4
      go_wp2_with (first | ((with_reducible refine gate_callee (f := 13) rfl ?_); refine goesL_ (some 15) rfl rfl Try.func13 (by kernel_rfl) rfl #[.string a0, .slice A1 l1.length c1, .slice A2 l2.length c2] rfl (by (try simp only [List.map_toArray, List.map_cons, List.map_nil]); first | done | rfl | (simp only [List.length_drop, List.length_take]; rfl)) ?_; (with_reducible refine (getopt_Join.calls a0 _ _ l1 _ _ l2 t239 t240 _ ?side0 ?side1 ?side2 ?side3 ?side4 A4.out).mono ?_); (case side0 => exact HOK.out.below (by repeat (first | (with_reducible first | exact HB.out | apply below_alloc | apply pw_below_drewN | apply below_drew1) | exact HB.out))); (case side1 => repeat (first | exact HR1.out | (with_reducible refine Kd.C_alloc ?_ _) | (with_reducible refine Kd.C_drewN ?_ _) | (with_reducible refine Kd.C_drew ?_))); (case side2 => exact HC1.out); (case side3 => repeat (first | exact HR2.out | (with_reducible refine Kd.C_alloc ?_ _) | (with_reducible refine Kd.C_drewN ?_ _) | (with_reducible refine Kd.C_drew ?_))); (case side4 => exact HC2.out); rintro e w15 ⟨v241, rfl, ho0, hb⟩; refine ⟨_, rfl, ?_⟩; have n0_ := Aside0.mk (Kd.R_lower ho0 (below_size (by repeat (first | (with_reducible first | exact HB.out | apply below_alloc | apply pw_below_drewN | apply below_drew1) | exact HB.out)))); have n1_ := Aside0.mk (below_step (by repeat (first | (with_reducible first | exact HB.out | apply below_alloc | apply pw_below_drewN | apply below_drew1) | exact HB.out)) hb); clear HB; have HO242 := n0_; have HB := n1_; clear n0_ n1_; (try clear hb); (try clear hb2); (try clear hk); (try clear hi); (try clear ho0)) | ((with_reducible refine gate_callee (f := 14) rfl ?_); refine goesL_ (some 22) rfl rfl Try.func14 (by kernel_rfl) rfl #[.string a0, .slice A1 l1.length c1, .slice A2 l2.length c2] rfl (by (try simp only [List.map_toArray, List.map_cons, List.map_nil]); first | done | rfl | (simp only [List.length_drop, List.length_take]; rfl)) ?_; (with_reducible refine (tinselref09_Join.calls k a0 _ _ l1 _ _ l2 t243 t244 _ ?side1 ?side2 ?side3 ?side4 A5.out).mono ?_); (case side1 => repeat (first | exact (Kd.C_below HR1.out HB.out) | (with_reducible refine Kd.C_alloc ?_ _) | (with_reducible refine Kd.C_drewN ?_ _) | (with_reducible refine Kd.C_drew ?_))); (case side2 => exact HC1.out); (case side3 => repeat (first | exact (Kd.C_below HR2.out HB.out) | (with_reducible refine Kd.C_alloc ?_ _) | (with_reducible refine Kd.C_drewN ?_ _) | (with_reducible refine Kd.C_drew ?_))); (case side4 => exact HC2.out); rintro e w16 ⟨v245, rfl, ho0, hb⟩; refine ⟨_, rfl, ?_⟩; have n0_ := Aside0.mk (Kd.R_elder' (by (with_reducible repeat (first | apply Kd.R_alloc | apply Kd.R_drewN | apply Kd.R_drew)); exact HO242.out) (Kd.R_base ho0) hb); have n1_ := Aside0.mk (Kd.R_lower (Kd.R_new' ho0 (Kd.R_lt (by (with_reducible repeat (first | apply Kd.R_alloc | apply Kd.R_drewN | apply Kd.R_drew)); exact HO242.out))) (below_size (by repeat (first | (with_reducible first | exact HB.out | apply below_alloc | apply pw_below_drewN | apply below_drew1) | exact HB.out)))); have n2_ := Aside0.mk (below_step (by repeat (first | (with_reducible first | exact HB.out | apply below_alloc | apply pw_below_drewN | apply below_drew1) | exact HB.out)) hb); clear HO242; clear HB; have HO242 := n0_; have HO246 := n1_; have HB := n2_; clear n0_ n1_ n2_; (try clear hb); (try clear hb2); (try clear hk); (try clear hi); (try clear ho0); obtain ⟨Ao17, co17, eo17⟩ := Kd.R_slice HO242.out; subst eo17; obtain ⟨Ao18, co18, eo18⟩ := Kd.R_slice HO246.out; subst eo18) | (go_at_call 11; (with_reducible refine (tinselref01_Texts.calls k _ _ t239 _ _ t243 false _ ?side1 ?side2 ?side3 ?side4 A7.out).mono ?_); (case side1 => repeat (first | exact (Kd.R_reads' HO242.out).2.2 | (with_reducible refine Kd.C_alloc ?_ _) | (with_reducible refine Kd.C_drewN ?_ _) | (with_reducible refine Kd.C_drew ?_))); (case side2 => exact (Kd.R_reads' HO242.out).2.1); (case side3 => repeat (first | exact (Kd.R_reads' HO246.out).2.2 | (with_reducible refine Kd.C_alloc ?_ _) | (with_reducible refine Kd.C_drewN ?_ _) | (with_reducible refine Kd.C_drew ?_))); (case side4 => exact (Kd.R_reads' HO246.out).2.1); rintro e w' ⟨rfl, ⟨nd, rfl⟩⟩))
      go_ret
      exact ⟨by first | rfl | (simp [errW_none, errW_some] <;> rfl) | (simp [*, errW_none, errW_some] <;> rfl), by repeat (first | (with_reducible first | exact HB.out | apply below_alloc | apply pw_below_drewN | apply below_drew1) | exact HB.out)⟩
  · rw [if_neg c6] at H
    have c6b0 : (t240 == t244) = false := beq_eq_false_iff_ne.mpr c6
    have c6b1 : (t240 != t244) = true := bne_iff_ne.mpr c6
    obtain rfl := Option.some.inj H
    go_enter Try.func4, Try.ntmps4
    go_wp2_with (first | ((with_reducible refine gate_callee (f := 13) rfl ?_); refine goesL_ (some 15) rfl rfl Try.func13 (by kernel_rfl) rfl #[.string a0, .slice A1 l1.length c1, .slice A2 l2.length c2] rfl (by (try simp only [List.map_toArray, List.map_cons, List.map_nil]); first | done | rfl | (simp only [List.length_drop, List.length_take]; rfl)) ?_; (with_reducible refine (getopt_Join.calls a0 _ _ l1 _ _ l2 t239 t240 _ ?side0 ?side1 ?side2 ?side3 ?side4 A4.out).mono ?_); (case side0 => exact HOK.out.below (by repeat (first | (with_reducible first | exact HB.out | apply below_alloc | apply pw_below_drewN | apply below_drew1) | exact HB.out))); (case side1 => repeat (first | exact HR1.out | (with_reducible refine Kd.C_alloc ?_ _) | (with_reducible refine Kd.C_drewN ?_ _) | (with_reducible refine Kd.C_drew ?_))); (case side2 => exact HC1.out); (case side3 => repeat (first | exact HR2.out | (with_reducible refine Kd.C_alloc ?_ _) | (with_reducible refine Kd.C_drewN ?_ _) | (with_reducible refine Kd.C_drew ?_))); (case side4 => exact HC2.out); rintro e w19 ⟨v241, rfl, ho0, hb⟩; refine ⟨_, rfl, ?_⟩; have n0_ := Aside0.mk (Kd.R_lower ho0 (below_size (by repeat (first | (with_reducible first | exact HB.out | apply below_alloc | apply pw_below_drewN | apply below_drew1) | exact HB.out)))); have n1_ := Aside0.mk (below_step (by repeat (first | (with_reducible first | exact HB.out | apply below_alloc | apply pw_below_drewN | apply below_drew1) | exact HB.out)) hb); clear HB; have HO242 := n0_; have HB := n1_; clear n0_ n1_; (try clear hb); (try clear hb2); (try clear hk); (try clear hi); (try clear ho0)) | ((with_reducible refine gate_callee (f := 14) rfl ?_); refine goesL_ (some 22) rfl rfl Try.func14 (by kernel_rfl) rfl #[.string a0, .slice A1 l1.length c1, .slice A2 l2.length c2] rfl (by (try simp only [List.map_toArray, List.map_cons, List.map_nil]); first | done | rfl | (simp only [List.length_drop, List.length_take]; rfl)) ?_; (with_reducible refine (tinselref09_Join.calls k a0 _ _ l1 _ _ l2 t243 t244 _ ?side1 ?side2 ?side3 ?side4 A5.out).mono ?_); (case side1 => repeat (first | exact (Kd.C_below HR1.out HB.out) | (with_reducible refine Kd.C_alloc ?_ _) | (with_reducible refine Kd.C_drewN ?_ _) | (with_reducible refine Kd.C_drew ?_))); (case side2 => exact HC1.out); (case side3 => repeat (first | exact (Kd.C_below HR2.out HB.out) | (with_reducible refine Kd.C_alloc ?_ _) | (with_reducible refine Kd.C_drewN ?_ _) | (with_reducible refine Kd.C_drew ?_))); (case side4 => exact HC2.out); rintro e w20 ⟨v245, rfl, ho0, hb⟩; refine ⟨_, rfl, ?_⟩; have n0_ := Aside0.mk (Kd.R_elder' (by (with_reducible repeat (first | apply Kd.R_alloc | apply Kd.R_drewN | apply Kd.R_drew)); exact HO242.out) (Kd.R_base ho0) hb); have n1_ := Aside0.mk (Kd.R_lower (Kd.R_new' ho0 (Kd.R_lt (by (with_reducible repeat (first | apply Kd.R_alloc | apply Kd.R_drewN | apply Kd.R_drew)); exact HO242.out))) (below_size (by repeat (first | (with_reducible first | exact HB.out | apply below_alloc | apply pw_below_drewN | apply below_drew1) | exact HB.out)))); have n2_ := Aside0.mk (below_step (by repeat (first | (with_reducible first | exact HB.out | apply below_alloc | apply pw_below_drewN | apply below_drew1) | exact HB.out)) hb); clear HO242; clear HB; have HO242 := n0_; have HO246 := n1_; have HB := n2_; clear n0_ n1_ n2_; (try clear hb); (try clear hb2); (try clear hk); (try clear hi); (try clear ho0)))
    go_ret
    exact ⟨by first | rfl | (simp [errW_none, errW_some] <;> rfl) | (simp [*, errW_none, errW_some] <;> rfl), by repeat (first | (with_reducible first | exact HB.out | apply below_alloc | apply pw_below_drewN | apply below_drew1) | exact HB.out)⟩

end Go.Proofs.Ytcmicndmaaaknaa.G


-- Made by a program of this session out of the translation; Lean checks it.
namespace Go.Proofs.Ytcmicndmaaaknaa.G
open Go.RowKit Go.Proofs.YtcmicndmaaaknaaW.PrintWords Go.Proofs.YtcmicndmaaaknaaW.PrintLast Go.Proofs.YtcmicndmaaaknaaW.PrintMore
attribute [local go_sem] max2_int min2_int max_two min_two max_three min_three max_four min_four   -- for this text's walks alone
set_option linter.unusedVariables false
set_option linter.unusedSimpArgs false

/-! ### tinsellaw09_GetoptBack: function 5 -/
def tinsellaw09_GetoptBack.f (k : Nat) (a0 : ByteArray) (l1 : List ByteArray) : Option (Bool) := (getopt_Parse.f a0 l1).bind fun bt249 => (if bt249.2.2.2.2 = 0 then ((getopt_Join.f a0 bt249.1 bt249.2.1).bind fun bt260 => ((getopt_Parse.f a0 bt260.1).bind fun bt264 => (if bt260.2 = 0 then (if bt264.2.2.2.2 = 0 then ((tinselref09_Same.f k bt249.1 bt264.1).bind fun t274 => (if t274 = true then ((tinselref01_Texts.f k bt249.2.1 bt264.2.1).bind fun t275 => (if t275 = true then ((tinsellaw09_lives.f k).bind fun t276 => (some t276)) else (some false))) else (some false))) else (some false)) else (some false)))) else ((tinsellaw09_lives.f k).bind fun t259 => (some t259)))
theorem tinsellaw09_GetoptBack.mono : ∀ a0 a1 k, LeO (tinsellaw09_GetoptBack.f k a0 a1) (tinsellaw09_GetoptBack.f (k + 1) a0 a1) := by
  intro a0 a1 k
  unfold tinsellaw09_GetoptBack.f
  repeat' first
      | (with_reducible exact tinsellaw09_lives.mono _)
      | (with_reducible exact tinselref01_Texts.mono _ _ _)
      | (with_reducible exact tinselref09_Same.mono _ _ _)
      | (with_reducible exact LeO.refl _)
      | (with_reducible exact LeO.none _)
      | (with_reducible refine LeO.ite ?_ ?_)
      | (with_reducible refine LeO.bind ?_ (fun _ => ?_))
      | exact tinsellaw09_lives.mono _
      | exact tinselref01_Texts.mono _ _ _
      | exact tinselref09_Same.mono _ _ _
      | exact LeO.none _
      | refine LeO.ite ?_ ?_
      | refine LeO.bind ?_ (fun _ => ?_)
set_option maxHeartbeats 8000000 in
set_option maxRecDepth 100000 in
theorem tinsellaw09_GetoptBack.calls (k : Nat) (a0 : ByteArray) (A1 : Option Addr) (c1 : Nat) (l1 : List ByteArray) (r : Bool) (w : World) (hok : JoinOk w a0) (hr1 : Kd.C Kd.string w A1 l1.length l1) (hc1 : l1.length ≤ c1) (h : tinsellaw09_GetoptBack.f k a0 l1 = some r) :
    Calls Try.prog 5 #[.string a0, .slice A1 l1.length c1] w fun e w' => e = .returned (.bool r) ∧ Below w.heap.size w w' := by
  have hu25 := Try.underlying25
  have HOK := Aside0.mk hok
  clear hok
  have HR1 := Aside0.mk hr1
  have HC1 := Aside0.mk hc1
  clear hr1 hc1
  have HB := Aside0.mk (Below.refl w.heap.size w)
  have H : ((getopt_Parse.f a0 l1).bind fun bt249 => (if bt249.2.2.2.2 = 0 then ((getopt_Join.f a0 bt249.1 bt249.2.1).bind fun bt260 => ((getopt_Parse.f a0 bt260.1).bind fun bt264 => (if bt260.2 = 0 then (if bt264.2.2.2.2 = 0 then ((tinselref09_Same.f k bt249.1 bt264.1).bind fun t274 => (if t274 = true then ((tinselref01_Texts.f k bt249.2.1 bt264.2.1).bind fun t275 => (if t275 = true then ((tinsellaw09_lives.f k).bind fun t276 => (some t276)) else (some false))) else (some false))) else (some false)) else (some false)))) else ((tinsellaw09_lives.f k).bind fun t259 => (some t259)))) = some r := h
  clear h
  replace H := Option.bind_eq_some_iff.mp H
  obtain ⟨⟨t249, t252, t255, t256, t257⟩, A30, H⟩ := H
  replace H : (if t257 = 0 then ((getopt_Join.f a0 t249 t252).bind fun bt260 => ((getopt_Parse.f a0 bt260.1).bind fun bt264 => (if bt260.2 = 0 then (if bt264.2.2.2.2 = 0 then ((tinselref09_Same.f k t249 bt264.1).bind fun t274 => (if t274 = true then ((tinselref01_Texts.f k t252 bt264.2.1).bind fun t275 => (if t275 = true then ((tinsellaw09_lives.f k).bind fun t276 => (some t276)) else (some false))) else (some false))) else (some false)) else (some false)))) else ((tinsellaw09_lives.f k).bind fun t259 => (some t259))) = some r := H
  have A3 := Aside0.mk A30
  clear A30
  by_cases c4 : t257 = 0
  · rw [if_pos c4] at H
    have c4b0 : (t257 == 0) = true := beq_iff_eq.mpr c4
    have c4b1 : (t257 != 0) = false := bne_eq_false_iff_eq.mpr c4
    clear c4
    replace H := Option.bind_eq_some_iff.mp H
    obtain ⟨⟨t260, t261⟩, A50, H⟩ := H
    replace H : ((getopt_Parse.f a0 t260).bind fun bt264 => (if t261 = 0 then (if bt264.2.2.2.2 = 0 then ((tinselref09_Same.f k t249 bt264.1).bind fun t274 => (if t274 = true then ((tinselref01_Texts.f k t252 bt264.2.1).bind fun t275 => (if t275 = true then ((tinsellaw09_lives.f k).bind fun t276 => (some t276)) else (some false))) else (some false))) else (some false)) else (some false))) = some r := H
    have A5 := Aside0.mk A50
    clear A50
    replace H := Option.bind_eq_some_iff.mp H
    obtain ⟨⟨t264, t267, t270, t271, t272⟩, A60, H⟩ := H
    replace H : (if t261 = 0 then (if t272 = 0 then ((tinselref09_Same.f k t249 t264).bind fun t274 => (if t274 = true then ((tinselref01_Texts.f k t252 t267).bind fun t275 => (if t275 = true then ((tinsellaw09_lives.f k).bind fun t276 => (some t276)) else (some false))) else (some false))) else (some false)) else (some false)) = some r := H
    have A6 := Aside0.mk A60
    clear A60
    by_cases c7 : t261 = 0
    · rw [if_pos c7] at H
      have c7b0 : (t261 == 0) = true := beq_iff_eq.mpr c7
      have c7b1 : (t261 != 0) = false := bne_eq_false_iff_eq.mpr c7
      clear c7
      by_cases c8 : t272 = 0
      · rw [if_pos c8] at H
        have c8b0 : (t272 == 0) = true := beq_iff_eq.mpr c8
        have c8b1 : (t272 != 0) = false := bne_eq_false_iff_eq.mpr c8
        clear c8
        replace H := Option.bind_eq_some_iff.mp H
        obtain ⟨t274, A90, H⟩ := H
        replace H : (if t274 = true then ((tinselref01_Texts.f k t252 t267).bind fun t275 => (if t275 = true then ((tinsellaw09_lives.f k).bind fun t276 => (some t276)) else (some false))) else (some false)) = some r := H
        have A9 := Aside0.mk A90
        clear A90
        by_cases c10 : t274 = true
        · subst c10
          have H1 : ((tinselref01_Texts.f k t252 t267).bind fun t275 => (if t275 = true then ((tinsellaw09_lives.f k).bind fun t276 => (some t276)) else (some false))) = some r := by rw [if_pos rfl] at H; exact H
          clear H
          have H := H1
          clear H1
          replace H := Option.bind_eq_some_iff.mp H
          obtain ⟨t275, A110, H⟩ := H
          replace H : (if t275 = true then ((tinsellaw09_lives.f k).bind fun t276 => (some t276)) else (some false)) = some r := H
          have A11 := Aside0.mk A110
          clear A110
          by_cases c12 : t275 = true
          · subst c12
            have H1 : ((tinsellaw09_lives.f k).bind fun t276 => (some t276)) = some r := by rw [if_pos rfl] at H; exact H
            clear H
            have H := H1
            clear H1
            replace H := Option.bind_eq_some_iff.mp H
            obtain ⟨t276, A130, H⟩ := H
            replace H : (some t276) = some r := H
            have A13 := Aside0.mk A130
            clear A130
            obtain rfl := Option.some.inj H
            go_enter Try.func5, Try.ntmps5
            go_wp2_with (first | ((with_reducible refine gate_callee (f := 8) rfl ?_); refine goesL_ (some 18) rfl rfl Try.func8 (by kernel_rfl) rfl #[.string a0, .slice A1 l1.length c1] rfl (by (try simp only [List.map_toArray, List.map_cons, List.map_nil]); first | done | rfl | (simp only [List.length_drop, List.length_take]; rfl)) ?_; (with_reducible refine (getopt_Parse.calls a0 _ _ l1 t249 t252 t255 t256 t257 _ ?side1 ?side2 A3.out).mono ?_); (case side1 => repeat (first | exact HR1.out | (with_reducible refine Kd.C_alloc ?_ _) | (with_reducible refine Kd.C_drewN ?_ _) | (with_reducible refine Kd.C_drew ?_))); (case side2 => exact HC1.out); rintro e w14 ⟨v250, v253, rfl, ho0, ho1, hb⟩; refine ⟨_, rfl, ?_⟩; have n0_ := Aside0.mk (Kd.R_lower ho0 (below_size (by repeat (first | (with_reducible first | exact HB.out | apply below_alloc | apply pw_below_drewN | apply below_drew1) | exact HB.out)))); have n1_ := Aside0.mk (Kd.R_lower ho1 (below_size (by repeat (first | (with_reducible first | exact HB.out | apply below_alloc | apply pw_below_drewN | apply below_drew1) | exact HB.out)))); have n2_ := Aside0.mk (below_step (by repeat (first | (with_reducible first | exact HB.out | apply below_alloc | apply pw_below_drewN | apply below_drew1) | exact HB.out)) hb); clear HB; have HO251 := n0_; have HO254 := n1_; have HB := n2_; clear n0_ n1_ n2_; (try clear hb); (try clear hb2); (try clear hk); (try clear hi); (try clear ho0); (try clear ho1)) | ((with_reducible refine gate_dst (N := 7) rfl ?_); refine box_event ?hg (N := 7) ?hd (cs := #[.string (⟨#[]⟩ : ByteArray), .bool false]) (t := 25) ?hr ?_; (case hd => rfl); (case hg => rfl); (case hr => first | (go_simp; done) | (go_simp; rfl)); intro gb258 hg w15 hbox hb; have n0_ := Aside0.mk (Kd.R_below (by (with_reducible repeat (first | apply Kd.R_alloc | apply Kd.R_drewN | apply Kd.R_drew)); exact HO251.out) hb); have n1_ := Aside0.mk (Kd.R_below (by (with_reducible repeat (first | apply Kd.R_alloc | apply Kd.R_drewN | apply Kd.R_drew)); exact HO254.out) hb); have n2_ := Aside0.mk (below_step (by repeat (first | (with_reducible first | exact HB.out | apply below_alloc | apply pw_below_drewN | apply below_drew1) | exact HB.out)) hb); have n3_ := Aside0.mk (hbox); have n4_ := Aside0.mk ((by rw [hg]; exact (below_size (by repeat (first | (with_reducible first | exact HB.out | apply below_alloc | apply pw_below_drewN | apply below_drew1) | exact HB.out))) : w.heap.size ≤ gb258)); have n5_ := Aside0.mk ((by rw [hg]; exact (below_size (by repeat (first | (with_reducible first | exact HB.out | apply below_alloc | apply pw_below_drewN | apply below_drew1) | exact HB.out))) : w.heap.size ≤ gb258)); clear HO251; clear HO254; clear HB; have HO251 := n0_; have HO254 := n1_; have HB := n2_; have BK258 := n3_; have GW258 := n4_; have GE258 := n5_; clear n0_ n1_ n2_ n3_ n4_ n5_; clear hb hbox hg; have hcz16_0 : w15.cell? ⟨gb258, 0, none⟩ = some (.string (⟨#[]⟩ : ByteArray)) := (blk_cell BK258.out 0).trans rfl; have hcz16_1 : w15.cell? ⟨gb258, 1, none⟩ = some (.bool false) := (blk_cell BK258.out 1).trans rfl; have hfz16_0 := blk_frozen BK258.out 0; have hfz16_1 := blk_frozen BK258.out 1; obtain ⟨Ao17, co17, eo17⟩ := Kd.R_slice HO251.out; subst eo17; obtain ⟨Ao18, co18, eo18⟩ := Kd.R_slice HO254.out; subst eo18) | ((with_reducible refine gate_callee (f := 13) rfl ?_); refine goesL_ (some 30) rfl rfl Try.func13 (by kernel_rfl) rfl #[.string a0, .slice Ao17 t249.length co17, .slice Ao18 t252.length co18] rfl (by (try simp only [List.map_toArray, List.map_cons, List.map_nil]); first | done | rfl | (simp only [List.length_drop, List.length_take]; rfl)) ?_; (with_reducible refine (getopt_Join.calls a0 _ _ t249 _ _ t252 t260 t261 _ ?side0 ?side1 ?side2 ?side3 ?side4 A5.out).mono ?_); (case side0 => exact HOK.out.below (by first | exact (HB.out.setCell (p := ⟨_, 0, none⟩) GW258.out _).setCell (p := ⟨_, 1, none⟩) GW258.out _ | (repeat (first | (with_reducible first | exact HB.out | apply below_alloc | apply pw_below_drewN | apply below_drew1) | exact HB.out)))); (case side1 => refine (Kd.R_reads' (e := 67) (base := w.heap.size) (ok := fun k_ => True) (n := t249.length) (c := co17) ?_).2.2; exact (by (with_reducible repeat (first | apply Kd.R_alloc | apply Kd.R_drewN | apply Kd.R_drew)); exact (Kd.R_mono (Kd.R_far (p := ⟨gb258, 1, none⟩) (Kd.R_far (p := ⟨gb258, 0, none⟩) (Kd.R_types HO251.out BK258.out (by decide)) (fun _ hk => hk.2) (.string t255)) (fun _ hk => hk.2) (.bool t256)) (fun _ h_ => h_.1)))); (case side2 => exact (Kd.R_reads' HO251.out).2.1); (case side3 => refine (Kd.R_reads' (e := 9) (base := w.heap.size) (ok := fun k_ => True) (n := t252.length) (c := co18) ?_).2.2; exact (by (with_reducible repeat (first | apply Kd.R_alloc | apply Kd.R_drewN | apply Kd.R_drew)); exact (Kd.R_mono (Kd.R_far (p := ⟨gb258, 1, none⟩) (Kd.R_far (p := ⟨gb258, 0, none⟩) (Kd.R_types HO254.out BK258.out (by decide)) (fun _ hk => hk.2) (.string t255)) (fun _ hk => hk.2) (.bool t256)) (fun _ h_ => h_.1)))); (case side4 => exact (Kd.R_reads' HO254.out).2.1); rintro e w19 ⟨v262, rfl, ho0, hb⟩; refine ⟨_, rfl, ?_⟩; have n0_ := Aside0.mk (Kd.R_below (by (with_reducible repeat (first | apply Kd.R_alloc | apply Kd.R_drewN | apply Kd.R_drew)); exact (Kd.R_mono (Kd.R_far (p := ⟨gb258, 1, none⟩) (Kd.R_far (p := ⟨gb258, 0, none⟩) (Kd.R_types HO251.out BK258.out (by decide)) (fun _ hk => hk.2) (.string t255)) (fun _ hk => hk.2) (.bool t256)) (fun _ h_ => h_.1))) hb); have n1_ := Aside0.mk (Kd.R_elder' (by (with_reducible repeat (first | apply Kd.R_alloc | apply Kd.R_drewN | apply Kd.R_drew)); exact (Kd.R_mono (Kd.R_far (p := ⟨gb258, 1, none⟩) (Kd.R_far (p := ⟨gb258, 0, none⟩) (Kd.R_types HO254.out BK258.out (by decide)) (fun _ hk => hk.2) (.string t255)) (fun _ hk => hk.2) (.bool t256)) (fun _ h_ => h_.1))) (Kd.R_base ho0) hb); have n2_ := Aside0.mk (Kd.R_lower (Kd.R_new' ho0 (Kd.R_lt (by (with_reducible repeat (first | apply Kd.R_alloc | apply Kd.R_drewN | apply Kd.R_drew)); exact (Kd.R_mono (Kd.R_far (p := ⟨gb258, 1, none⟩) (Kd.R_far (p := ⟨gb258, 0, none⟩) (Kd.R_types HO254.out BK258.out (by decide)) (fun _ hk => hk.2) (.string t255)) (fun _ hk => hk.2) (.bool t256)) (fun _ h_ => h_.1))))) (below_size (by repeat (first | (with_reducible first | exact HB.out | apply below_alloc | apply pw_below_drewN | apply below_drew1 | refine below_set ?_ GE258.out) | exact HB.out)))); have n3_ := Aside0.mk (blk_below (g := gb258) (o := .cells #[.string t255, .bool t256] 25 (0, 0)) (by (with_reducible repeat (first | refine blk_drewN ?_ _ | refine blk_drew ?_ | refine blk_alloc ?_ _)); refine blk_put (cs := #[.string t255, .bool false]) ?_ 1 _ rfl; (with_reducible repeat (first | refine blk_drewN ?_ _ | refine blk_drew ?_ | refine blk_alloc ?_ _)); refine blk_put (cs := #[.string (⟨#[]⟩ : ByteArray), .bool false]) ?_ 0 _ rfl; (with_reducible repeat (first | refine blk_drewN ?_ _ | refine blk_drew ?_ | refine blk_alloc ?_ _)); exact BK258.out) hb); have n4_ := Aside0.mk (below_step (by repeat (first | (with_reducible first | exact HB.out | apply below_alloc | apply pw_below_drewN | apply below_drew1 | refine below_set ?_ GE258.out) | exact HB.out)) hb); clear HO251; clear HO254; clear BK258; clear HB; have HO251 := n0_; have HO254 := n1_; have HO263 := n2_; have BK258 := n3_; have HB := n4_; clear n0_ n1_ n2_ n3_ n4_; (try clear hb); (try clear hb2); (try clear hk); (try clear hi); (try clear ho0); obtain ⟨Ao20, co20, eo20⟩ := Kd.R_slice HO263.out; subst eo20) | ((with_reducible refine gate_callee (f := 8) rfl ?_); refine goesL_ (some 36) rfl rfl Try.func8 (by kernel_rfl) rfl #[.string a0, .slice Ao20 t260.length co20] rfl (by (try simp only [List.map_toArray, List.map_cons, List.map_nil]); first | done | rfl | (simp only [List.length_drop, List.length_take]; rfl)) ?_; (with_reducible refine (getopt_Parse.calls a0 _ _ t260 t264 t267 t270 t271 t272 _ ?side1 ?side2 A6.out).mono ?_); (case side1 => repeat (first | exact (Kd.R_reads' HO263.out).2.2 | (with_reducible refine Kd.C_alloc ?_ _) | (with_reducible refine Kd.C_drewN ?_ _) | (with_reducible refine Kd.C_drew ?_))); (case side2 => exact (Kd.R_reads' HO263.out).2.1); rintro e w21 ⟨v265, v268, rfl, ho0, ho1, hb⟩; refine ⟨_, rfl, ?_⟩; have n0_ := Aside0.mk (Kd.R_elder' (by (with_reducible repeat (first | apply Kd.R_alloc | apply Kd.R_drewN | apply Kd.R_drew)); exact HO251.out) (Kd.R_base ho0) hb); have n1_ := Aside0.mk (Kd.R_elder' (by (with_reducible repeat (first | apply Kd.R_alloc | apply Kd.R_drewN | apply Kd.R_drew)); exact HO254.out) (Kd.R_base ho1) hb); have n2_ := Aside0.mk (Kd.R_elder' (by (with_reducible repeat (first | apply Kd.R_alloc | apply Kd.R_drewN | apply Kd.R_drew)); exact HO263.out) (Kd.R_base ho1) hb); have n3_ := Aside0.mk (Kd.R_lower (Kd.R_new' ho0 (Kd.R_lt (by (with_reducible repeat (first | apply Kd.R_alloc | apply Kd.R_drewN | apply Kd.R_drew)); exact HO251.out))) (below_size (by repeat (first | (with_reducible first | exact HB.out | apply below_alloc | apply pw_below_drewN | apply below_drew1 | refine below_set ?_ GE258.out) | exact HB.out)))); have n4_ := Aside0.mk (Kd.R_lower (Kd.R_new' (Kd.R_new' ho1 (Kd.R_lt (by (with_reducible repeat (first | apply Kd.R_alloc | apply Kd.R_drewN | apply Kd.R_drew)); exact HO254.out))) (Kd.R_lt (by (with_reducible repeat (first | apply Kd.R_alloc | apply Kd.R_drewN | apply Kd.R_drew)); exact HO263.out))) (below_size (by repeat (first | (with_reducible first | exact HB.out | apply below_alloc | apply pw_below_drewN | apply below_drew1 | refine below_set ?_ GE258.out) | exact HB.out)))); have n5_ := Aside0.mk (blk_below (g := gb258) (o := .cells #[.string t255, .bool t256] 25 (0, 0)) (by (with_reducible repeat (first | refine blk_drewN ?_ _ | refine blk_drew ?_ | refine blk_alloc ?_ _)); exact BK258.out) hb); have n6_ := Aside0.mk (below_step (by repeat (first | (with_reducible first | exact HB.out | apply below_alloc | apply pw_below_drewN | apply below_drew1 | refine below_set ?_ GE258.out) | exact HB.out)) hb); clear HO251; clear HO254; clear HO263; clear BK258; clear HB; have HO251 := n0_; have HO254 := n1_; have HO263 := n2_; have HO266 := n3_; have HO269 := n4_; have BK258 := n5_; have HB := n6_; clear n0_ n1_ n2_ n3_ n4_ n5_ n6_; (try clear hb); (try clear hb2); (try clear hk); (try clear hi); (try clear ho0); (try clear ho1)) | ((with_reducible refine gate_dst (N := 13) rfl ?_); refine box_event ?hg (N := 13) ?hd (cs := #[.string (⟨#[]⟩ : ByteArray), .bool false]) (t := 25) ?hr ?_; (case hd => rfl); (case hg => rfl); (case hr => first | (go_simp; done) | (go_simp; rfl)); intro gb273 hg w22 hbox hb; have n0_ := Aside0.mk (Kd.R_below (by (with_reducible repeat (first | apply Kd.R_alloc | apply Kd.R_drewN | apply Kd.R_drew)); exact HO251.out) hb); have n1_ := Aside0.mk (Kd.R_below (by (with_reducible repeat (first | apply Kd.R_alloc | apply Kd.R_drewN | apply Kd.R_drew)); exact HO254.out) hb); have n2_ := Aside0.mk (Kd.R_below (by (with_reducible repeat (first | apply Kd.R_alloc | apply Kd.R_drewN | apply Kd.R_drew)); exact HO263.out) hb); have n3_ := Aside0.mk (Kd.R_below (by (with_reducible repeat (first | apply Kd.R_alloc | apply Kd.R_drewN | apply Kd.R_drew)); exact HO266.out) hb); have n4_ := Aside0.mk (Kd.R_below (by (with_reducible repeat (first | apply Kd.R_alloc | apply Kd.R_drewN | apply Kd.R_drew)); exact HO269.out) hb); have n5_ := Aside0.mk (blk_below (g := gb258) (o := .cells #[.string t255, .bool t256] 25 (0, 0)) (by (with_reducible repeat (first | refine blk_drewN ?_ _ | refine blk_drew ?_ | refine blk_alloc ?_ _)); exact BK258.out) hb); have n6_ := Aside0.mk (below_step (by repeat (first | (with_reducible first | exact HB.out | apply below_alloc | apply pw_below_drewN | apply below_drew1 | refine below_set ?_ GE258.out) | exact HB.out)) hb); have n7_ := Aside0.mk (hbox); have n8_ := Aside0.mk ((by rw [hg]; exact (below_size (by repeat (first | (with_reducible first | exact HB.out | apply below_alloc | apply pw_below_drewN | apply below_drew1 | refine below_set ?_ GE258.out) | exact HB.out))) : w.heap.size ≤ gb273)); have n9_ := Aside0.mk ((by rw [hg]; exact (below_size (by repeat (first | (with_reducible first | exact HB.out | apply below_alloc | apply pw_below_drewN | apply below_drew1 | refine below_set ?_ GE258.out) | exact HB.out))) : w.heap.size ≤ gb273)); have n10_ := Aside0.mk ((by rw [hg]; exact Nat.ne_of_lt (blk_lt (g := gb258) (o := .cells #[.string t255, .bool t256] 25 (0, 0)) (by (with_reducible repeat (first | refine blk_drewN ?_ _ | refine blk_drew ?_ | refine blk_alloc ?_ _)); exact BK258.out)) : gb258 ≠ gb273)); have n11_ := Aside0.mk ((by rw [hg]; exact Nat.ne_of_gt (blk_lt (g := gb258) (o := .cells #[.string t255, .bool t256] 25 (0, 0)) (by (with_reducible repeat (first | refine blk_drewN ?_ _ | refine blk_drew ?_ | refine blk_alloc ?_ _)); exact BK258.out)) : gb273 ≠ gb258)); clear HO251; clear HO254; clear HO263; clear HO266; clear HO269; clear BK258; clear HB; have HO251 := n0_; have HO254 := n1_; have HO263 := n2_; have HO266 := n3_; have HO269 := n4_; have BK258 := n5_; have HB := n6_; have BK273 := n7_; have GW273 := n8_; have GE273 := n9_; have NB258_273 := n10_; have NB273_258 := n11_; clear n0_ n1_ n2_ n3_ n4_ n5_ n6_ n7_ n8_ n9_ n10_ n11_; clear hb hbox hg; have hnb23 := NB273_258.out; have hnc23 := NB258_273.out; have hcz24_0 : w22.cell? ⟨gb273, 0, none⟩ = some (.string (⟨#[]⟩ : ByteArray)) := (blk_cell BK273.out 0).trans rfl; have hcz24_1 : w22.cell? ⟨gb273, 1, none⟩ = some (.bool false) := (blk_cell BK273.out 1).trans rfl; have hfz24_0 := blk_frozen BK273.out 0; have hfz24_1 := blk_frozen BK273.out 1; obtain ⟨Ao25, co25, eo25⟩ := Kd.R_slice HO266.out; subst eo25) | (go_at_call 10; (with_reducible refine (tinselref09_Same.calls k _ _ t249 _ _ t264 true _ ?side1 ?side2 ?side3 ?side4 A9.out).mono ?_); (case side1 => refine (Kd.R_reads' (e := 67) (base := w.heap.size) (ok := fun k_ => (True ∧ some k_ ≠ (.slice Ao25 t264.length co25 : Value).ownBlock)) (n := t249.length) (c := co17) ?_).2.2; exact (by (with_reducible repeat (first | apply Kd.R_alloc | apply Kd.R_drewN | apply Kd.R_drew)); exact (Kd.R_mono (Kd.R_far (p := ⟨gb273, 1, none⟩) (Kd.R_far (p := ⟨gb273, 0, none⟩) (Kd.R_types HO251.out BK273.out (by decide)) (fun _ hk => hk.2) (.string t270)) (fun _ hk => hk.2) (.bool t271)) (fun _ h_ => h_.1)))); (case side2 => exact (Kd.R_reads' HO251.out).2.1); (case side3 => refine (Kd.R_reads' (e := 67) (base := w.heap.size) (ok := fun k_ => (True ∧ some k_ ≠ (.slice Ao17 t249.length co17 : Value).ownBlock)) (n := t264.length) (c := co25) ?_).2.2; exact (by (with_reducible repeat (first | apply Kd.R_alloc | apply Kd.R_drewN | apply Kd.R_drew)); exact (Kd.R_mono (Kd.R_far (p := ⟨gb273, 1, none⟩) (Kd.R_far (p := ⟨gb273, 0, none⟩) (Kd.R_types HO266.out BK273.out (by decide)) (fun _ hk => hk.2) (.string t270)) (fun _ hk => hk.2) (.bool t271)) (fun _ h_ => h_.1)))); (case side4 => exact (Kd.R_reads' HO266.out).2.1); rintro e w' ⟨rfl, ⟨nd, rfl⟩⟩; obtain ⟨Ao26, co26, eo26⟩ := Kd.R_slice HO269.out; subst eo26) | (go_at_call 11; (with_reducible refine (tinselref01_Texts.calls k _ _ t252 _ _ t267 true _ ?side1 ?side2 ?side3 ?side4 A11.out).mono ?_); (case side1 => refine (Kd.R_reads' (e := 9) (base := w.heap.size) (ok := fun k_ => ((True ∧ some k_ ≠ (.slice Ao20 t260.length co20 : Value).ownBlock) ∧ some k_ ≠ (.slice Ao26 t267.length co26 : Value).ownBlock)) (n := t252.length) (c := co18) ?_).2.2; exact (by (with_reducible repeat (first | apply Kd.R_alloc | apply Kd.R_drewN | apply Kd.R_drew)); exact (Kd.R_mono (Kd.R_far (p := ⟨gb273, 1, none⟩) (Kd.R_far (p := ⟨gb273, 0, none⟩) (Kd.R_types HO254.out BK273.out (by decide)) (fun _ hk => hk.2) (.string t270)) (fun _ hk => hk.2) (.bool t271)) (fun _ h_ => h_.1)))); (case side2 => exact (Kd.R_reads' HO254.out).2.1); (case side3 => refine (Kd.R_reads' (e := 9) (base := w.heap.size) (ok := fun k_ => ((True ∧ some k_ ≠ (.slice Ao18 t252.length co18 : Value).ownBlock) ∧ some k_ ≠ (.slice Ao20 t260.length co20 : Value).ownBlock)) (n := t267.length) (c := co26) ?_).2.2; exact (by (with_reducible repeat (first | apply Kd.R_alloc | apply Kd.R_drewN | apply Kd.R_drew)); exact (Kd.R_mono (Kd.R_far (p := ⟨gb273, 1, none⟩) (Kd.R_far (p := ⟨gb273, 0, none⟩) (Kd.R_types HO269.out BK273.out (by decide)) (fun _ hk => hk.2) (.string t270)) (fun _ hk => hk.2) (.bool t271)) (fun _ h_ => h_.1)))); (case side4 => exact (Kd.R_reads' HO269.out).2.1); rintro e w' ⟨rfl, ⟨nd, rfl⟩⟩) | (go_at_call 12; (with_reducible refine (tinsellaw09_lives.calls k  t276 _ A13.out).mono ?_); rintro e w27 ⟨rfl, hb⟩; have n0_ := Aside0.mk (Kd.R_below (by (with_reducible repeat (first | apply Kd.R_alloc | apply Kd.R_drewN | apply Kd.R_drew)); exact (Kd.R_mono (Kd.R_far (p := ⟨gb273, 1, none⟩) (Kd.R_far (p := ⟨gb273, 0, none⟩) (Kd.R_types HO251.out BK273.out (by decide)) (fun _ hk => hk.2) (.string t270)) (fun _ hk => hk.2) (.bool t271)) (fun _ h_ => h_.1))) hb); have n1_ := Aside0.mk (Kd.R_below (by (with_reducible repeat (first | apply Kd.R_alloc | apply Kd.R_drewN | apply Kd.R_drew)); exact (Kd.R_mono (Kd.R_far (p := ⟨gb273, 1, none⟩) (Kd.R_far (p := ⟨gb273, 0, none⟩) (Kd.R_types HO254.out BK273.out (by decide)) (fun _ hk => hk.2) (.string t270)) (fun _ hk => hk.2) (.bool t271)) (fun _ h_ => h_.1))) hb); have n2_ := Aside0.mk (Kd.R_below (by (with_reducible repeat (first | apply Kd.R_alloc | apply Kd.R_drewN | apply Kd.R_drew)); exact (Kd.R_mono (Kd.R_far (p := ⟨gb273, 1, none⟩) (Kd.R_far (p := ⟨gb273, 0, none⟩) (Kd.R_types HO263.out BK273.out (by decide)) (fun _ hk => hk.2) (.string t270)) (fun _ hk => hk.2) (.bool t271)) (fun _ h_ => h_.1))) hb); have n3_ := Aside0.mk (Kd.R_below (by (with_reducible repeat (first | apply Kd.R_alloc | apply Kd.R_drewN | apply Kd.R_drew)); exact (Kd.R_mono (Kd.R_far (p := ⟨gb273, 1, none⟩) (Kd.R_far (p := ⟨gb273, 0, none⟩) (Kd.R_types HO266.out BK273.out (by decide)) (fun _ hk => hk.2) (.string t270)) (fun _ hk => hk.2) (.bool t271)) (fun _ h_ => h_.1))) hb); have n4_ := Aside0.mk (Kd.R_below (by (with_reducible repeat (first | apply Kd.R_alloc | apply Kd.R_drewN | apply Kd.R_drew)); exact (Kd.R_mono (Kd.R_far (p := ⟨gb273, 1, none⟩) (Kd.R_far (p := ⟨gb273, 0, none⟩) (Kd.R_types HO269.out BK273.out (by decide)) (fun _ hk => hk.2) (.string t270)) (fun _ hk => hk.2) (.bool t271)) (fun _ h_ => h_.1))) hb); have n5_ := Aside0.mk (blk_below (g := gb258) (o := .cells #[.string t255, .bool t256] 25 (0, 0)) (by (with_reducible repeat (first | refine blk_drewN ?_ _ | refine blk_drew ?_ | refine blk_alloc ?_ _)); refine blk_far ?_ NB258_273.out _; (with_reducible repeat (first | refine blk_drewN ?_ _ | refine blk_drew ?_ | refine blk_alloc ?_ _)); refine blk_far ?_ NB258_273.out _; (with_reducible repeat (first | refine blk_drewN ?_ _ | refine blk_drew ?_ | refine blk_alloc ?_ _)); exact BK258.out) hb); have n6_ := Aside0.mk (blk_below (g := gb273) (o := .cells #[.string t270, .bool t271] 25 (0, 0)) (by (with_reducible repeat (first | refine blk_drewN ?_ _ | refine blk_drew ?_ | refine blk_alloc ?_ _)); refine blk_put (cs := #[.string t270, .bool false]) ?_ 1 _ rfl; (with_reducible repeat (first | refine blk_drewN ?_ _ | refine blk_drew ?_ | refine blk_alloc ?_ _)); refine blk_put (cs := #[.string (⟨#[]⟩ : ByteArray), .bool false]) ?_ 0 _ rfl; (with_reducible repeat (first | refine blk_drewN ?_ _ | refine blk_drew ?_ | refine blk_alloc ?_ _)); exact BK273.out) hb); have n7_ := Aside0.mk (below_step (by repeat (first | (with_reducible first | exact HB.out | apply below_alloc | apply pw_below_drewN | apply below_drew1 | refine below_set ?_ GE258.out | refine below_set ?_ GE273.out) | exact HB.out)) hb); clear HO251; clear HO254; clear HO263; clear HO266; clear HO269; clear BK258; clear BK273; clear HB; have HO251 := n0_; have HO254 := n1_; have HO263 := n2_; have HO266 := n3_; have HO269 := n4_; have BK258 := n5_; have BK273 := n6_; have HB := n7_; clear n0_ n1_ n2_ n3_ n4_ n5_ n6_ n7_; (try clear hb); (try clear hb2); (try clear hk); (try clear hi)))
            go_ret
            exact ⟨by first | rfl | (simp [errW_none, errW_some] <;> rfl) | (simp [*, errW_none, errW_some] <;> rfl), by repeat (first | (with_reducible first | exact HB.out | apply below_alloc | apply pw_below_drewN | apply below_drew1 | refine below_set ?_ GE258.out | refine below_set ?_ GE273.out) | exact HB.out)⟩
          · replace c12 := Bool.eq_false_iff.mpr c12
            subst c12
            have H1 : (some false) = some r := by rw [if_neg (show ¬ (false = true) by decide)] at H; exact H
            clear H
            have H := H1
            clear H1
            obtain rfl := Option.some.inj H
            go_enter Try.func5, Try.ntmps5
            go_wp2_with (first | ((with_reducible refine gate_callee (f := 8) rfl ?_); refine goesL_ (some 18) rfl rfl Try.func8 (by kernel_rfl) rfl #[.string a0, .slice A1 l1.length c1] rfl (by (try simp only [List.map_toArray, List.map_cons, List.map_nil]); first | done | rfl | (simp only [List.length_drop, List.length_take]; rfl)) ?_; (with_reducible refine (getopt_Parse.calls a0 _ _ l1 t249 t252 t255 t256 t257 _ ?side1 ?side2 A3.out).mono ?_); (case side1 => repeat (first | exact HR1.out | (with_reducible refine Kd.C_alloc ?_ _) | (with_reducible refine Kd.C_drewN ?_ _) | (with_reducible refine Kd.C_drew ?_))); (case side2 => exact HC1.out); rintro e w28 ⟨v250, v253, rfl, ho0, ho1, hb⟩; refine ⟨_, rfl, ?_⟩; have n0_ := Aside0.mk (Kd.R_lower ho0 (below_size (by repeat (first | (with_reducible first | exact HB.out | apply below_alloc | apply pw_below_drewN | apply below_drew1) | exact HB.out)))); have n1_ := Aside0.mk (Kd.R_lower ho1 (below_size (by repeat (first | (with_reducible first | exact HB.out | apply below_alloc | apply pw_below_drewN | apply below_drew1) | exact HB.out)))); have n2_ := Aside0.mk (below_step (by repeat (first | (with_reducible first | exact HB.out | apply below_alloc | apply pw_below_drewN | apply below_drew1) | exact HB.out)) hb); clear HB; have HO251 := n0_; have HO254 := n1_; have HB := n2_; clear n0_ n1_ n2_; (try clear hb); (try clear hb2); (try clear hk); (try clear hi); (try clear ho0); (try clear ho1)) | ((with_reducible refine gate_dst (N := 7) rfl ?_); refine box_event ?hg (N := 7) ?hd (cs := #[.string (⟨#[]⟩ : ByteArray), .bool false]) (t := 25) ?hr ?_; (case hd => rfl); (case hg => rfl); (case hr => first | (go_simp; done) | (go_simp; rfl)); intro gb258 hg w29 hbox hb; have n0_ := Aside0.mk (Kd.R_below (by (with_reducible repeat (first | apply Kd.R_alloc | apply Kd.R_drewN | apply Kd.R_drew)); exact HO251.out) hb); have n1_ := Aside0.mk (Kd.R_below (by (with_reducible repeat (first | apply Kd.R_alloc | apply Kd.R_drewN | apply Kd.R_drew)); exact HO254.out) hb); have n2_ := Aside0.mk (below_step (by repeat (first | (with_reducible first | exact HB.out | apply below_alloc | apply pw_below_drewN | apply below_drew1) | exact HB.out)) hb); have n3_ := Aside0.mk (hbox); have n4_ := Aside0.mk ((by rw [hg]; exact (below_size (by repeat (first | (with_reducible first | exact HB.out | apply below_alloc | apply pw_below_drewN | apply below_drew1) | exact HB.out))) : w.heap.size ≤ gb258)); have n5_ := Aside0.mk ((by rw [hg]; exact (below_size (by repeat (first | (with_reducible first | exact HB.out | apply below_alloc | apply pw_below_drewN | apply below_drew1) | exact HB.out))) : w.heap.size ≤ gb258)); clear HO251; clear HO254; clear HB; have HO251 := n0_; have HO254 := n1_; have HB := n2_; have BK258 := n3_; have GW258 := n4_; have GE258 := n5_; clear n0_ n1_ n2_ n3_ n4_ n5_; clear hb hbox hg; have hcz30_0 : w29.cell? ⟨gb258, 0, none⟩ = some (.string (⟨#[]⟩ : ByteArray)) := (blk_cell BK258.out 0).trans rfl; have hcz30_1 : w29.cell? ⟨gb258, 1, none⟩ = some (.bool false) := (blk_cell BK258.out 1).trans rfl; have hfz30_0 := blk_frozen BK258.out 0; have hfz30_1 := blk_frozen BK258.out 1; obtain ⟨Ao31, co31, eo31⟩ := Kd.R_slice HO251.out; subst eo31; obtain ⟨Ao32, co32, eo32⟩ := Kd.R_slice HO254.out; subst eo32) | ((with_reducible refine gate_callee (f := 13) rfl ?_); refine goesL_ (some 30) rfl rfl Try.func13 (by kernel_rfl) rfl #[.string a0, .slice Ao31 t249.length co31, .slice Ao32 t252.length co32] rfl (by (try simp only [List.map_toArray, List.map_cons, List.map_nil]); first | done | rfl | (simp only [List.length_drop, List.length_take]; rfl)) ?_; (with_reducible refine (getopt_Join.calls a0 _ _ t249 _ _ t252 t260 t261 _ ?side0 ?side1 ?side2 ?side3 ?side4 A5.out).mono ?_); (case side0 => exact HOK.out.below (by first | exact (HB.out.setCell (p := ⟨_, 0, none⟩) GW258.out _).setCell (p := ⟨_, 1, none⟩) GW258.out _ | (repeat (first | (with_reducible first | exact HB.out | apply below_alloc | apply pw_below_drewN | apply below_drew1) | exact HB.out)))); (case side1 => refine (Kd.R_reads' (e := 67) (base := w.heap.size) (ok := fun k_ => True) (n := t249.length) (c := co31) ?_).2.2; exact (by (with_reducible repeat (first | apply Kd.R_alloc | apply Kd.R_drewN | apply Kd.R_drew)); exact (Kd.R_mono (Kd.R_far (p := ⟨gb258, 1, none⟩) (Kd.R_far (p := ⟨gb258, 0, none⟩) (Kd.R_types HO251.out BK258.out (by decide)) (fun _ hk => hk.2) (.string t255)) (fun _ hk => hk.2) (.bool t256)) (fun _ h_ => h_.1)))); (case side2 => exact (Kd.R_reads' HO251.out).2.1); (case side3 => refine (Kd.R_reads' (e := 9) (base := w.heap.size) (ok := fun k_ => True) (n := t252.length) (c := co32) ?_).2.2; exact (by (with_reducible repeat (first | apply Kd.R_alloc | apply Kd.R_drewN | apply Kd.R_drew)); exact (Kd.R_mono (Kd.R_far (p := ⟨gb258, 1, none⟩) (Kd.R_far (p := ⟨gb258, 0, none⟩) (Kd.R_types HO254.out BK258.out (by decide)) (fun _ hk => hk.2) (.string t255)) (fun _ hk => hk.2) (.bool t256)) (fun _ h_ => h_.1)))); (case side4 => exact (Kd.R_reads' HO254.out).2.1); rintro e w33 ⟨v262, rfl, ho0, hb⟩; refine ⟨_, rfl, ?_⟩; have n0_ := Aside0.mk (Kd.R_below (by (with_reducible repeat (first | apply Kd.R_alloc | apply Kd.R_drewN | apply Kd.R_drew)); exact (Kd.R_mono (Kd.R_far (p := ⟨gb258, 1, none⟩) (Kd.R_far (p := ⟨gb258, 0, none⟩) (Kd.R_types HO251.out BK258.out (by decide)) (fun _ hk => hk.2) (.string t255)) (fun _ hk => hk.2) (.bool t256)) (fun _ h_ => h_.1))) hb); have n1_ := Aside0.mk (Kd.R_elder' (by (with_reducible repeat (first | apply Kd.R_alloc | apply Kd.R_drewN | apply Kd.R_drew)); exact (Kd.R_mono (Kd.R_far (p := ⟨gb258, 1, none⟩) (Kd.R_far (p := ⟨gb258, 0, none⟩) (Kd.R_types HO254.out BK258.out (by decide)) (fun _ hk => hk.2) (.string t255)) (fun _ hk => hk.2) (.bool t256)) (fun _ h_ => h_.1))) (Kd.R_base ho0) hb); have n2_ := Aside0.mk (Kd.R_lower (Kd.R_new' ho0 (Kd.R_lt (by (with_reducible repeat (first | apply Kd.R_alloc | apply Kd.R_drewN | apply Kd.R_drew)); exact (Kd.R_mono (Kd.R_far (p := ⟨gb258, 1, none⟩) (Kd.R_far (p := ⟨gb258, 0, none⟩) (Kd.R_types HO254.out BK258.out (by decide)) (fun _ hk => hk.2) (.string t255)) (fun _ hk => hk.2) (.bool t256)) (fun _ h_ => h_.1))))) (below_size (by repeat (first | (with_reducible first | exact HB.out | apply below_alloc | apply pw_below_drewN | apply below_drew1 | refine below_set ?_ GE258.out) | exact HB.out)))); have n3_ := Aside0.mk (blk_below (g := gb258) (o := .cells #[.string t255, .bool t256] 25 (0, 0)) (by (with_reducible repeat (first | refine blk_drewN ?_ _ | refine blk_drew ?_ | refine blk_alloc ?_ _)); refine blk_put (cs := #[.string t255, .bool false]) ?_ 1 _ rfl; (with_reducible repeat (first | refine blk_drewN ?_ _ | refine blk_drew ?_ | refine blk_alloc ?_ _)); refine blk_put (cs := #[.string (⟨#[]⟩ : ByteArray), .bool false]) ?_ 0 _ rfl; (with_reducible repeat (first | refine blk_drewN ?_ _ | refine blk_drew ?_ | refine blk_alloc ?_ _)); exact BK258.out) hb); have n4_ := Aside0.mk (below_step (by repeat (first | (with_reducible first | exact HB.out | apply below_alloc | apply pw_below_drewN | apply below_drew1 | refine below_set ?_ GE258.out) | exact HB.out)) hb); clear HO251; clear HO254; clear BK258; clear HB; have HO251 := n0_; have HO254 := n1_; have HO263 := n2_; have BK258 := n3_; have HB := n4_; clear n0_ n1_ n2_ n3_ n4_; (try clear hb); (try clear hb2); (try clear hk); (try clear hi); (try clear ho0); obtain ⟨Ao34, co34, eo34⟩ := Kd.R_slice HO263.out; subst eo34) | ((with_reducible refine gate_callee (f := 8) rfl ?_); refine goesL_ (some 36) rfl rfl Try.func8 (by kernel_rfl) rfl #[.string a0, .slice Ao34 t260.length co34] rfl (by (try simp only [List.map_toArray, List.map_cons, List.map_nil]); first | done | rfl | (simp only [List.length_drop, List.length_take]; rfl)) ?_; (with_reducible refine (getopt_Parse.calls a0 _ _ t260 t264 t267 t270 t271 t272 _ ?side1 ?side2 A6.out).mono ?_); (case side1 => repeat (first | exact (Kd.R_reads' HO263.out).2.2 | (with_reducible refine Kd.C_alloc ?_ _) | (with_reducible refine Kd.C_drewN ?_ _) | (with_reducible refine Kd.C_drew ?_))); (case side2 => exact (Kd.R_reads' HO263.out).2.1); rintro e w35 ⟨v265, v268, rfl, ho0, ho1, hb⟩; refine ⟨_, rfl, ?_⟩; have n0_ := Aside0.mk (Kd.R_elder' (by (with_reducible repeat (first | apply Kd.R_alloc | apply Kd.R_drewN | apply Kd.R_drew)); exact HO251.out) (Kd.R_base ho0) hb); have n1_ := Aside0.mk (Kd.R_elder' (by (with_reducible repeat (first | apply Kd.R_alloc | apply Kd.R_drewN | apply Kd.R_drew)); exact HO254.out) (Kd.R_base ho1) hb); have n2_ := Aside0.mk (Kd.R_elder' (by (with_reducible repeat (first | apply Kd.R_alloc | apply Kd.R_drewN | apply Kd.R_drew)); exact HO263.out) (Kd.R_base ho1) hb); have n3_ := Aside0.mk (Kd.R_lower (Kd.R_new' ho0 (Kd.R_lt (by (with_reducible repeat (first | apply Kd.R_alloc | apply Kd.R_drewN | apply Kd.R_drew)); exact HO251.out))) (below_size (by repeat (first | (with_reducible first | exact HB.out | apply below_alloc | apply pw_below_drewN | apply below_drew1 | refine below_set ?_ GE258.out) | exact HB.out)))); have n4_ := Aside0.mk (Kd.R_lower (Kd.R_new' (Kd.R_new' ho1 (Kd.R_lt (by (with_reducible repeat (first | apply Kd.R_alloc | apply Kd.R_drewN | apply Kd.R_drew)); exact HO254.out))) (Kd.R_lt (by (with_reducible repeat (first | apply Kd.R_alloc | apply Kd.R_drewN | apply Kd.R_drew)); exact HO263.out))) (below_size (by repeat (first | (with_reducible first | exact HB.out | apply below_alloc | apply pw_below_drewN | apply below_drew1 | refine below_set ?_ GE258.out) | exact HB.out)))); have n5_ := Aside0.mk (blk_below (g := gb258) (o := .cells #[.string t255, .bool t256] 25 (0, 0)) (by (with_reducible repeat (first | refine blk_drewN ?_ _ | refine blk_drew ?_ | refine blk_alloc ?_ _)); exact BK258.out) hb); have n6_ := Aside0.mk (below_step (by repeat (first | (with_reducible first | exact HB.out | apply below_alloc | apply pw_below_drewN | apply below_drew1 | refine below_set ?_ GE258.out) | exact HB.out)) hb); clear HO251; clear HO254; clear HO263; clear BK258; clear HB; have HO251 := n0_; have HO254 := n1_; have HO263 := n2_; have HO266 := n3_; have HO269 := n4_; have BK258 := n5_; have HB := n6_; clear n0_ n1_ n2_ n3_ n4_ n5_ n6_; (try clear hb); (try clear hb2); (try clear hk); (try clear hi); (try clear ho0); (try clear ho1)) | ((with_reducible refine gate_dst (N := 13) rfl ?_); refine box_event ?hg (N := 13) ?hd (cs := #[.string (⟨#[]⟩ : ByteArray), .bool false]) (t := 25) ?hr ?_; (case hd => rfl); (case hg => rfl); (case hr => first | (go_simp; done) | (go_simp; rfl)); intro gb273 hg w36 hbox hb; have n0_ := Aside0.mk (Kd.R_below (by (with_reducible repeat (first | apply Kd.R_alloc | apply Kd.R_drewN | apply Kd.R_drew)); exact HO251.out) hb); have n1_ := Aside0.mk (Kd.R_below (by (with_reducible repeat (first | apply Kd.R_alloc | apply Kd.R_drewN | apply Kd.R_drew)); exact HO254.out) hb); have n2_ := Aside0.mk (Kd.R_below (by (with_reducible repeat (first | apply Kd.R_alloc | apply Kd.R_drewN | apply Kd.R_drew)); exact HO263.out) hb); have n3_ := Aside0.mk (Kd.R_below (by (with_reducible repeat (first | apply Kd.R_alloc | apply Kd.R_drewN | apply Kd.R_drew)); exact HO266.out) hb); have n4_ := Aside0.mk (Kd.R_below (by (with_reducible repeat (first | apply Kd.R_alloc | apply Kd.R_drewN | apply Kd.R_drew)); exact HO269.out) hb); have n5_ := Aside0.mk (blk_below (g := gb258) (o := .cells #[.string t255, .bool t256] 25 (0, 0)) (by (with_reducible repeat (first | refine blk_drewN ?_ _ | refine blk_drew ?_ | refine blk_alloc ?_ _)); exact BK258.out) hb); have n6_ := Aside0.mk (below_step (by repeat (first | (with_reducible first | exact HB.out | apply below_alloc | apply pw_below_drewN | apply below_drew1 | refine below_set ?_ GE258.out) | exact HB.out)) hb); have n7_ := Aside0.mk (hbox); have n8_ := Aside0.mk ((by rw [hg]; exact (below_size (by repeat (first | (with_reducible first | exact HB.out | apply below_alloc | apply pw_below_drewN | apply below_drew1 | refine below_set ?_ GE258.out) | exact HB.out))) : w.heap.size ≤ gb273)); have n9_ := Aside0.mk ((by rw [hg]; exact (below_size (by repeat (first | (with_reducible first | exact HB.out | apply below_alloc | apply pw_below_drewN | apply below_drew1 | refine below_set ?_ GE258.out) | exact HB.out))) : w.heap.size ≤ gb273)); have n10_ := Aside0.mk ((by rw [hg]; exact Nat.ne_of_lt (blk_lt (g := gb258) (o := .cells #[.string t255, .bool t256] 25 (0, 0)) (by (with_reducible repeat (first | refine blk_drewN ?_ _ | refine blk_drew ?_ | refine blk_alloc ?_ _)); exact BK258.out)) : gb258 ≠ gb273)); have n11_ := Aside0.mk ((by rw [hg]; exact Nat.ne_of_gt (blk_lt (g := gb258) (o := .cells #[.string t255, .bool t256] 25 (0, 0)) (by (with_reducible repeat (first | refine blk_drewN ?_ _ | refine blk_drew ?_ | refine blk_alloc ?_ _)); exact BK258.out)) : gb273 ≠ gb258)); clear HO251; clear HO254; clear HO263; clear HO266; clear HO269; clear BK258; clear HB; have HO251 := n0_; have HO254 := n1_; have HO263 := n2_; have HO266 := n3_; have HO269 := n4_; have BK258 := n5_; have HB := n6_; have BK273 := n7_; have GW273 := n8_; have GE273 := n9_; have NB258_273 := n10_; have NB273_258 := n11_; clear n0_ n1_ n2_ n3_ n4_ n5_ n6_ n7_ n8_ n9_ n10_ n11_; clear hb hbox hg; have hnb37 := NB273_258.out; have hnc37 := NB258_273.out; have hcz38_0 : w36.cell? ⟨gb273, 0, none⟩ = some (.string (⟨#[]⟩ : ByteArray)) := (blk_cell BK273.out 0).trans rfl; have hcz38_1 : w36.cell? ⟨gb273, 1, none⟩ = some (.bool false) := (blk_cell BK273.out 1).trans rfl; have hfz38_0 := blk_frozen BK273.out 0; have hfz38_1 := blk_frozen BK273.out 1; obtain ⟨Ao39, co39, eo39⟩ := Kd.R_slice HO266.out; subst eo39) | (go_at_call 10; (with_reducible refine (tinselref09_Same.calls k _ _ t249 _ _ t264 true _ ?side1 ?side2 ?side3 ?side4 A9.out).mono ?_); (case side1 => refine (Kd.R_reads' (e := 67) (base := w.heap.size) (ok := fun k_ => (True ∧ some k_ ≠ (.slice Ao39 t264.length co39 : Value).ownBlock)) (n := t249.length) (c := co31) ?_).2.2; exact (by (with_reducible repeat (first | apply Kd.R_alloc | apply Kd.R_drewN | apply Kd.R_drew)); exact (Kd.R_mono (Kd.R_far (p := ⟨gb273, 1, none⟩) (Kd.R_far (p := ⟨gb273, 0, none⟩) (Kd.R_types HO251.out BK273.out (by decide)) (fun _ hk => hk.2) (.string t270)) (fun _ hk => hk.2) (.bool t271)) (fun _ h_ => h_.1)))); (case side2 => exact (Kd.R_reads' HO251.out).2.1); (case side3 => refine (Kd.R_reads' (e := 67) (base := w.heap.size) (ok := fun k_ => (True ∧ some k_ ≠ (.slice Ao31 t249.length co31 : Value).ownBlock)) (n := t264.length) (c := co39) ?_).2.2; exact (by (with_reducible repeat (first | apply Kd.R_alloc | apply Kd.R_drewN | apply Kd.R_drew)); exact (Kd.R_mono (Kd.R_far (p := ⟨gb273, 1, none⟩) (Kd.R_far (p := ⟨gb273, 0, none⟩) (Kd.R_types HO266.out BK273.out (by decide)) (fun _ hk => hk.2) (.string t270)) (fun _ hk => hk.2) (.bool t271)) (fun _ h_ => h_.1)))); (case side4 => exact (Kd.R_reads' HO266.out).2.1); rintro e w' ⟨rfl, ⟨nd, rfl⟩⟩; obtain ⟨Ao40, co40, eo40⟩ := Kd.R_slice HO269.out; subst eo40) | (go_at_call 11; (with_reducible refine (tinselref01_Texts.calls k _ _ t252 _ _ t267 false _ ?side1 ?side2 ?side3 ?side4 A11.out).mono ?_); (case side1 => refine (Kd.R_reads' (e := 9) (base := w.heap.size) (ok := fun k_ => ((True ∧ some k_ ≠ (.slice Ao34 t260.length co34 : Value).ownBlock) ∧ some k_ ≠ (.slice Ao40 t267.length co40 : Value).ownBlock)) (n := t252.length) (c := co32) ?_).2.2; exact (by (with_reducible repeat (first | apply Kd.R_alloc | apply Kd.R_drewN | apply Kd.R_drew)); exact (Kd.R_mono (Kd.R_far (p := ⟨gb273, 1, none⟩) (Kd.R_far (p := ⟨gb273, 0, none⟩) (Kd.R_types HO254.out BK273.out (by decide)) (fun _ hk => hk.2) (.string t270)) (fun _ hk => hk.2) (.bool t271)) (fun _ h_ => h_.1)))); (case side2 => exact (Kd.R_reads' HO254.out).2.1); (case side3 => refine (Kd.R_reads' (e := 9) (base := w.heap.size) (ok := fun k_ => ((True ∧ some k_ ≠ (.slice Ao32 t252.length co32 : Value).ownBlock) ∧ some k_ ≠ (.slice Ao34 t260.length co34 : Value).ownBlock)) (n := t267.length) (c := co40) ?_).2.2; exact (by (with_reducible repeat (first | apply Kd.R_alloc | apply Kd.R_drewN | apply Kd.R_drew)); exact (Kd.R_mono (Kd.R_far (p := ⟨gb273, 1, none⟩) (Kd.R_far (p := ⟨gb273, 0, none⟩) (Kd.R_types HO269.out BK273.out (by decide)) (fun _ hk => hk.2) (.string t270)) (fun _ hk => hk.2) (.bool t271)) (fun _ h_ => h_.1)))); (case side4 => exact (Kd.R_reads' HO269.out).2.1); rintro e w' ⟨rfl, ⟨nd, rfl⟩⟩))
            go_ret
            exact ⟨by first | rfl | (simp [errW_none, errW_some] <;> rfl) | (simp [*, errW_none, errW_some] <;> rfl), by repeat (first | (with_reducible first | exact HB.out | apply below_alloc | apply pw_below_drewN | apply below_drew1 | refine below_set ?_ GE258.out | refine below_set ?_ GE273.out) | exact HB.out)⟩
        · replace c10 := Bool.eq_false_iff.mpr c10
          subst c10
          have H1 : (some false) = some r := by rw [if_neg (show ¬ (false = true) by decide)] at H; exact H
          clear H
          have H := H1
          clear H1
          obtain rfl := Option.some.inj H
          go_enter Try.func5, Try.ntmps5
          go_wp2_with (first | ((with_reducible refine gate_callee (f := 8) rfl ?_); refine goesL_ (some 18) rfl rfl Try.func8 (by kernel_rfl) rfl #[.string a0, .slice A1 l1.length c1] rfl (by (try simp only [List.map_toArray, List.map_cons, List.map_nil]); first | done | rfl | (simp only [List.length_drop, List.length_take]; rfl)) ?_; (with_reducible refine (getopt_Parse.calls a0 _ _ l1 t249 t252 t255 t256 t257 _ ?side1 ?side2 A3.out).mono ?_); (case side1 => repeat (first | exact HR1.out | (with_reducible refine Kd.C_alloc ?_ _) | (with_reducible refine Kd.C_drewN ?_ _) | (with_reducible refine Kd.C_drew ?_))); (case side2 => exact HC1.out); rintro e w41 ⟨v250, v253, rfl, ho0, ho1, hb⟩; refine ⟨_, rfl, ?_⟩; have n0_ := Aside0.mk (Kd.R_lower ho0 (below_size (by repeat (first | (with_reducible first | exact HB.out | apply below_alloc | apply pw_below_drewN | apply below_drew1) | exact HB.out)))); have n1_ := Aside0.mk (Kd.R_lower ho1 (below_size (by repeat (first | (with_reducible first | exact HB.out | apply below_alloc | apply pw_below_drewN | apply below_drew1) | exact HB.out)))); have n2_ := Aside0.mk (below_step (by repeat (first | (with_reducible first | exact HB.out | apply below_alloc | apply pw_below_drewN | apply below_drew1) | exact HB.out)) hb); clear HB; have HO251 := n0_; have HO254 := n1_; have HB := n2_; clear n0_ n1_ n2_; (try clear hb); (try clear hb2); (try clear hk); (try clear hi); (try clear ho0); (try clear ho1)) | ((with_reducible refine gate_dst (N := 7) rfl ?_); refine box_event ?hg (N := 7) ?hd (cs := #[.string (⟨#[]⟩ : ByteArray), .bool false]) (t := 25) ?hr ?_; (case hd => rfl); (case hg => rfl); (case hr => first | (go_simp; done) | (go_simp; rfl)); intro gb258 hg w42 hbox hb; have n0_ := Aside0.mk (Kd.R_below (by (with_reducible repeat (first | apply Kd.R_alloc | apply Kd.R_drewN | apply Kd.R_drew)); exact HO251.out) hb); have n1_ := Aside0.mk (Kd.R_below (by (with_reducible repeat (first | apply Kd.R_alloc | apply Kd.R_drewN | apply Kd.R_drew)); exact HO254.out) hb); have n2_ := Aside0.mk (below_step (by repeat (first | (with_reducible first | exact HB.out | apply below_alloc | apply pw_below_drewN | apply below_drew1) | exact HB.out)) hb); have n3_ := Aside0.mk (hbox); have n4_ := Aside0.mk ((by rw [hg]; exact (below_size (by repeat (first | (with_reducible first | exact HB.out | apply below_alloc | apply pw_below_drewN | apply below_drew1) | exact HB.out))) : w.heap.size ≤ gb258)); have n5_ := Aside0.mk ((by rw [hg]; exact (below_size (by repeat (first | (with_reducible first | exact HB.out | apply below_alloc | apply pw_below_drewN | apply below_drew1) | exact HB.out))) : w.heap.size ≤ gb258)); clear HO251; clear HO254; clear HB; have HO251 := n0_; have HO254 := n1_; have HB := n2_; have BK258 := n3_; have GW258 := n4_; have GE258 := n5_; clear n0_ n1_ n2_ n3_ n4_ n5_; clear hb hbox hg; have hcz43_0 : w42.cell? ⟨gb258, 0, none⟩ = some (.string (⟨#[]⟩ : ByteArray)) := (blk_cell BK258.out 0).trans rfl; have hcz43_1 : w42.cell? ⟨gb258, 1, none⟩ = some (.bool false) := (blk_cell BK258.out 1).trans rfl; have hfz43_0 := blk_frozen BK258.out 0; have hfz43_1 := blk_frozen BK258.out 1; obtain ⟨Ao44, co44, eo44⟩ := Kd.R_slice HO251.out; subst eo44; obtain ⟨Ao45, co45, eo45⟩ := Kd.R_slice HO254.out; subst eo45) | ((with_reducible refine gate_callee (f := 13) rfl ?_); refine goesL_ (some 30) rfl rfl Try.func13 (by kernel_rfl) rfl #[.string a0, .slice Ao44 t249.length co44, .slice Ao45 t252.length co45] rfl (by (try simp only [List.map_toArray, List.map_cons, List.map_nil]); first | done | rfl | (simp only [List.length_drop, List.length_take]; rfl)) ?_; (with_reducible refine (getopt_Join.calls a0 _ _ t249 _ _ t252 t260 t261 _ ?side0 ?side1 ?side2 ?side3 ?side4 A5.out).mono ?_); (case side0 => exact HOK.out.below (by first | exact (HB.out.setCell (p := ⟨_, 0, none⟩) GW258.out _).setCell (p := ⟨_, 1, none⟩) GW258.out _ | (repeat (first | (with_reducible first | exact HB.out | apply below_alloc | apply pw_below_drewN | apply below_drew1) | exact HB.out)))); (case side1 => refine (Kd.R_reads' (e := 67) (base := w.heap.size) (ok := fun k_ => True) (n := t249.length) (c := co44) ?_).2.2; exact (by (with_reducible repeat (first | apply Kd.R_alloc | apply Kd.R_drewN | apply Kd.R_drew)); exact (Kd.R_mono (Kd.R_far (p := ⟨gb258, 1, none⟩) (Kd.R_far (p := ⟨gb258, 0, none⟩) (Kd.R_types HO251.out BK258.out (by decide)) (fun _ hk => hk.2) (.string t255)) (fun _ hk => hk.2) (.bool t256)) (fun _ h_ => h_.1)))); (case side2 => exact (Kd.R_reads' HO251.out).2.1); (case side3 => refine (Kd.R_reads' (e := 9) (base := w.heap.size) (ok := fun k_ => True) (n := t252.length) (c := co45) ?_).2.2; exact (by (with_reducible repeat (first | apply Kd.R_alloc | apply Kd.R_drewN | apply Kd.R_drew)); exact (Kd.R_mono (Kd.R_far (p := ⟨gb258, 1, none⟩) (Kd.R_far (p := ⟨gb258, 0, none⟩) (Kd.R_types HO254.out BK258.out (by decide)) (fun _ hk => hk.2) (.string t255)) (fun _ hk => hk.2) (.bool t256)) (fun _ h_ => h_.1)))); (case side4 => exact (Kd.R_reads' HO254.out).2.1); rintro e w46 ⟨v262, rfl, ho0, hb⟩; refine ⟨_, rfl, ?_⟩; have n0_ := Aside0.mk (Kd.R_below (by (with_reducible repeat (first | apply Kd.R_alloc | apply Kd.R_drewN | apply Kd.R_drew)); exact (Kd.R_mono (Kd.R_far (p := ⟨gb258, 1, none⟩) (Kd.R_far (p := ⟨gb258, 0, none⟩) (Kd.R_types HO251.out BK258.out (by decide)) (fun _ hk => hk.2) (.string t255)) (fun _ hk => hk.2) (.bool t256)) (fun _ h_ => h_.1))) hb); have n1_ := Aside0.mk (Kd.R_elder' (by (with_reducible repeat (first | apply Kd.R_alloc | apply Kd.R_drewN | apply Kd.R_drew)); exact (Kd.R_mono (Kd.R_far (p := ⟨gb258, 1, none⟩) (Kd.R_far (p := ⟨gb258, 0, none⟩) (Kd.R_types HO254.out BK258.out (by decide)) (fun _ hk => hk.2) (.string t255)) (fun _ hk => hk.2) (.bool t256)) (fun _ h_ => h_.1))) (Kd.R_base ho0) hb); have n2_ := Aside0.mk (Kd.R_lower (Kd.R_new' ho0 (Kd.R_lt (by (with_reducible repeat (first | apply Kd.R_alloc | apply Kd.R_drewN | apply Kd.R_drew)); exact (Kd.R_mono (Kd.R_far (p := ⟨gb258, 1, none⟩) (Kd.R_far (p := ⟨gb258, 0, none⟩) (Kd.R_types HO254.out BK258.out (by decide)) (fun _ hk => hk.2) (.string t255)) (fun _ hk => hk.2) (.bool t256)) (fun _ h_ => h_.1))))) (below_size (by repeat (first | (with_reducible first | exact HB.out | apply below_alloc | apply pw_below_drewN | apply below_drew1 | refine below_set ?_ GE258.out) | exact HB.out)))); have n3_ := Aside0.mk (blk_below (g := gb258) (o := .cells #[.string t255, .bool t256] 25 (0, 0)) (by (with_reducible repeat (first | refine blk_drewN ?_ _ | refine blk_drew ?_ | refine blk_alloc ?_ _)); refine blk_put (cs := #[.string t255, .bool false]) ?_ 1 _ rfl; (with_reducible repeat (first | refine blk_drewN ?_ _ | refine blk_drew ?_ | refine blk_alloc ?_ _)); refine blk_put (cs := #[.string (⟨#[]⟩ : ByteArray), .bool false]) ?_ 0 _ rfl; (with_reducible repeat (first | refine blk_drewN ?_ _ | refine blk_drew ?_ | refine blk_alloc ?_ _)); exact BK258.out) hb); have n4_ := Aside0.mk (below_step (by repeat (first | (with_reducible first | exact HB.out | apply below_alloc | apply pw_below_drewN | apply below_drew1 | refine below_set ?_ GE258.out) | exact HB.out)) hb); clear HO251; clear HO254; clear BK258; clear HB; have HO251 := n0_; have HO254 := n1_; have HO263 := n2_; have BK258 := n3_; have HB := n4_; clear n0_ n1_ n2_ n3_ n4_; (try clear hb); (try clear hb2); (try clear hk); (try clear hi); (try clear ho0); obtain ⟨Ao47, co47, eo47⟩ := Kd.R_slice HO263.out; subst eo47) | ((with_reducible refine gate_callee (f := 8) rfl ?_); refine goesL_ (some 36) rfl rfl Try.func8 (by kernel_rfl) rfl #[.string a0, .slice Ao47 t260.length co47] rfl (by (try simp only [List.map_toArray, List.map_cons, List.map_nil]); first | done | rfl | (simp only [List.length_drop, List.length_take]; rfl)) ?_; (with_reducible refine (getopt_Parse.calls a0 _ _ t260 t264 t267 t270 t271 t272 _ ?side1 ?side2 A6.out).mono ?_); (case side1 => repeat (first | exact (Kd.R_reads' HO263.out).2.2 | (with_reducible refine Kd.C_alloc ?_ _) | (with_reducible refine Kd.C_drewN ?_ _) | (with_reducible refine Kd.C_drew ?_))); (case side2 => exact (Kd.R_reads' HO263.out).2.1); rintro e w48 ⟨v265, v268, rfl, ho0, ho1, hb⟩; refine ⟨_, rfl, ?_⟩; have n0_ := Aside0.mk (Kd.R_elder' (by (with_reducible repeat (first | apply Kd.R_alloc | apply Kd.R_drewN | apply Kd.R_drew)); exact HO251.out) (Kd.R_base ho0) hb); have n1_ := Aside0.mk (Kd.R_elder' (by (with_reducible repeat (first | apply Kd.R_alloc | apply Kd.R_drewN | apply Kd.R_drew)); exact HO254.out) (Kd.R_base ho1) hb); have n2_ := Aside0.mk (Kd.R_elder' (by (with_reducible repeat (first | apply Kd.R_alloc | apply Kd.R_drewN | apply Kd.R_drew)); exact HO263.out) (Kd.R_base ho1) hb); have n3_ := Aside0.mk (Kd.R_lower (Kd.R_new' ho0 (Kd.R_lt (by (with_reducible repeat (first | apply Kd.R_alloc | apply Kd.R_drewN | apply Kd.R_drew)); exact HO251.out))) (below_size (by repeat (first | (with_reducible first | exact HB.out | apply below_alloc | apply pw_below_drewN | apply below_drew1 | refine below_set ?_ GE258.out) | exact HB.out)))); have n4_ := Aside0.mk (Kd.R_lower (Kd.R_new' (Kd.R_new' ho1 (Kd.R_lt (by (with_reducible repeat (first | apply Kd.R_alloc | apply Kd.R_drewN | apply Kd.R_drew)); exact HO254.out))) (Kd.R_lt (by (with_reducible repeat (first | apply Kd.R_alloc | apply Kd.R_drewN | apply Kd.R_drew)); exact HO263.out))) (below_size (by repeat (first | (with_reducible first | exact HB.out | apply below_alloc | apply pw_below_drewN | apply below_drew1 | refine below_set ?_ GE258.out) | exact HB.out)))); have n5_ := Aside0.mk (blk_below (g := gb258) (o := .cells #[.string t255, .bool t256] 25 (0, 0)) (by (with_reducible repeat (first | refine blk_drewN ?_ _ | refine blk_drew ?_ | refine blk_alloc ?_ _)); exact BK258.out) hb); have n6_ := Aside0.mk (below_step (by repeat (first | (with_reducible first | exact HB.out | apply below_alloc | apply pw_below_drewN | apply below_drew1 | refine below_set ?_ GE258.out) | exact HB.out)) hb); clear HO251; clear HO254; clear HO263; clear BK258; clear HB; have HO251 := n0_; have HO254 := n1_; have HO263 := n2_; have HO266 := n3_; have HO269 := n4_; have BK258 := n5_; have HB := n6_; clear n0_ n1_ n2_ n3_ n4_ n5_ n6_; (try clear hb); (try clear hb2); (try clear hk); (try clear hi); (try clear ho0); (try clear ho1)) | ((with_reducible refine gate_dst (N := 13) rfl ?_); refine box_event ?hg (N := 13) ?hd (cs := #[.string (⟨#[]⟩ : ByteArray), .bool false]) (t := 25) ?hr ?_; (case hd => rfl); (case hg => rfl); (case hr => first | (go_simp; done) | (go_simp; rfl)); intro gb273 hg w49 hbox hb; have n0_ := Aside0.mk (Kd.R_below (by (with_reducible repeat (first | apply Kd.R_alloc | apply Kd.R_drewN | apply Kd.R_drew)); exact HO251.out) hb); have n1_ := Aside0.mk (Kd.R_below (by (with_reducible repeat (first | apply Kd.R_alloc | apply Kd.R_drewN | apply Kd.R_drew)); exact HO254.out) hb); have n2_ := Aside0.mk (Kd.R_below (by (with_reducible repeat (first | apply Kd.R_alloc | apply Kd.R_drewN | apply Kd.R_drew)); exact HO263.out) hb); have n3_ := Aside0.mk (Kd.R_below (by (with_reducible repeat (first | apply Kd.R_alloc | apply Kd.R_drewN | apply Kd.R_drew)); exact HO266.out) hb); have n4_ := Aside0.mk (Kd.R_below (by (with_reducible repeat (first | apply Kd.R_alloc | apply Kd.R_drewN | apply Kd.R_drew)); exact HO269.out) hb); have n5_ := Aside0.mk (blk_below (g := gb258) (o := .cells #[.string t255, .bool t256] 25 (0, 0)) (by (with_reducible repeat (first | refine blk_drewN ?_ _ | refine blk_drew ?_ | refine blk_alloc ?_ _)); exact BK258.out) hb); have n6_ := Aside0.mk (below_step (by repeat (first | (with_reducible first | exact HB.out | apply below_alloc | apply pw_below_drewN | apply below_drew1 | refine below_set ?_ GE258.out) | exact HB.out)) hb); have n7_ := Aside0.mk (hbox); have n8_ := Aside0.mk ((by rw [hg]; exact (below_size (by repeat (first | (with_reducible first | exact HB.out | apply below_alloc | apply pw_below_drewN | apply below_drew1 | refine below_set ?_ GE258.out) | exact HB.out))) : w.heap.size ≤ gb273)); have n9_ := Aside0.mk ((by rw [hg]; exact (below_size (by repeat (first | (with_reducible first | exact HB.out | apply below_alloc | apply pw_below_drewN | apply below_drew1 | refine below_set ?_ GE258.out) | exact HB.out))) : w.heap.size ≤ gb273)); have n10_ := Aside0.mk ((by rw [hg]; exact Nat.ne_of_lt (blk_lt (g := gb258) (o := .cells #[.string t255, .bool t256] 25 (0, 0)) (by (with_reducible repeat (first | refine blk_drewN ?_ _ | refine blk_drew ?_ | refine blk_alloc ?_ _)); exact BK258.out)) : gb258 ≠ gb273)); have n11_ := Aside0.mk ((by rw [hg]; exact Nat.ne_of_gt (blk_lt (g := gb258) (o := .cells #[.string t255, .bool t256] 25 (0, 0)) (by (with_reducible repeat (first | refine blk_drewN ?_ _ | refine blk_drew ?_ | refine blk_alloc ?_ _)); exact BK258.out)) : gb273 ≠ gb258)); clear HO251; clear HO254; clear HO263; clear HO266; clear HO269; clear BK258; clear HB; have HO251 := n0_; have HO254 := n1_; have HO263 := n2_; have HO266 := n3_; have HO269 := n4_; have BK258 := n5_; have HB := n6_; have BK273 := n7_; have GW273 := n8_; have GE273 := n9_; have NB258_273 := n10_; have NB273_258 := n11_; clear n0_ n1_ n2_ n3_ n4_ n5_ n6_ n7_ n8_ n9_ n10_ n11_; clear hb hbox hg; have hnb50 := NB273_258.out; have hnc50 := NB258_273.out; have hcz51_0 : w49.cell? ⟨gb273, 0, none⟩ = some (.string (⟨#[]⟩ : ByteArray)) := (blk_cell BK273.out 0).trans rfl; have hcz51_1 : w49.cell? ⟨gb273, 1, none⟩ = some (.bool false) := (blk_cell BK273.out 1).trans rfl; have hfz51_0 := blk_frozen BK273.out 0; have hfz51_1 := blk_frozen BK273.out 1; obtain ⟨Ao52, co52, eo52⟩ := Kd.R_slice HO266.out; subst eo52) | (go_at_call 10; (with_reducible refine (tinselref09_Same.calls k _ _ t249 _ _ t264 false _ ?side1 ?side2 ?side3 ?side4 A9.out).mono ?_); (case side1 => refine (Kd.R_reads' (e := 67) (base := w.heap.size) (ok := fun k_ => (True ∧ some k_ ≠ (.slice Ao52 t264.length co52 : Value).ownBlock)) (n := t249.length) (c := co44) ?_).2.2; exact (by (with_reducible repeat (first | apply Kd.R_alloc | apply Kd.R_drewN | apply Kd.R_drew)); exact (Kd.R_mono (Kd.R_far (p := ⟨gb273, 1, none⟩) (Kd.R_far (p := ⟨gb273, 0, none⟩) (Kd.R_types HO251.out BK273.out (by decide)) (fun _ hk => hk.2) (.string t270)) (fun _ hk => hk.2) (.bool t271)) (fun _ h_ => h_.1)))); (case side2 => exact (Kd.R_reads' HO251.out).2.1); (case side3 => refine (Kd.R_reads' (e := 67) (base := w.heap.size) (ok := fun k_ => (True ∧ some k_ ≠ (.slice Ao44 t249.length co44 : Value).ownBlock)) (n := t264.length) (c := co52) ?_).2.2; exact (by (with_reducible repeat (first | apply Kd.R_alloc | apply Kd.R_drewN | apply Kd.R_drew)); exact (Kd.R_mono (Kd.R_far (p := ⟨gb273, 1, none⟩) (Kd.R_far (p := ⟨gb273, 0, none⟩) (Kd.R_types HO266.out BK273.out (by decide)) (fun _ hk => hk.2) (.string t270)) (fun _ hk => hk.2) (.bool t271)) (fun _ h_ => h_.1)))); (case side4 => exact (Kd.R_reads' HO266.out).2.1); rintro e w' ⟨rfl, ⟨nd, rfl⟩⟩))
          go_ret
          exact ⟨by first | rfl | (simp [errW_none, errW_some] <;> rfl) | (simp [*, errW_none, errW_some] <;> rfl), by repeat (first | (with_reducible first | exact HB.out | apply below_alloc | apply pw_below_drewN | apply below_drew1 | refine below_set ?_ GE258.out | refine below_set ?_ GE273.out) | exact HB.out)⟩
      · rw [if_neg c8] at H
        have c8b0 : (t272 == 0) = false := beq_eq_false_iff_ne.mpr c8
        have c8b1 : (t272 != 0) = true := bne_iff_ne.mpr c8
        obtain rfl := Option.some.inj H
        go_enter Try.func5, Try.ntmps5
        go_wp2_with (first | ((with_reducible refine gate_callee (f := 8) rfl ?_); refine goesL_ (some 18) rfl rfl Try.func8 (by kernel_rfl) rfl #[.string a0, .slice A1 l1.length c1] rfl (by (try simp only [List.map_toArray, List.map_cons, List.map_nil]); first | done | rfl | (simp only [List.length_drop, List.length_take]; rfl)) ?_; (with_reducible refine (getopt_Parse.calls a0 _ _ l1 t249 t252 t255 t256 t257 _ ?side1 ?side2 A3.out).mono ?_); (case side1 => repeat (first | exact HR1.out | (with_reducible refine Kd.C_alloc ?_ _) | (with_reducible refine Kd.C_drewN ?_ _) | (with_reducible refine Kd.C_drew ?_))); (case side2 => exact HC1.out); rintro e w53 ⟨v250, v253, rfl, ho0, ho1, hb⟩; refine ⟨_, rfl, ?_⟩; have n0_ := Aside0.mk (Kd.R_lower ho0 (below_size (by repeat (first | (with_reducible first | exact HB.out | apply below_alloc | apply pw_below_drewN | apply below_drew1) | exact HB.out)))); have n1_ := Aside0.mk (Kd.R_lower ho1 (below_size (by repeat (first | (with_reducible first | exact HB.out | apply below_alloc | apply pw_below_drewN | apply below_drew1) | exact HB.out)))); have n2_ := Aside0.mk (below_step (by repeat (first | (with_reducible first | exact HB.out | apply below_alloc | apply pw_below_drewN | apply below_drew1) | exact HB.out)) hb); clear HB; have HO251 := n0_; have HO254 := n1_; have HB := n2_; clear n0_ n1_ n2_; (try clear hb); (try clear hb2); (try clear hk); (try clear hi); (try clear ho0); (try clear ho1)) | ((with_reducible refine gate_dst (N := 7) rfl ?_); refine box_event ?hg (N := 7) ?hd (cs := #[.string (⟨#[]⟩ : ByteArray), .bool false]) (t := 25) ?hr ?_; (case hd => rfl); (case hg => rfl); (case hr => first | (go_simp; done) | (go_simp; rfl)); intro gb258 hg w54 hbox hb; have n0_ := Aside0.mk (Kd.R_below (by (with_reducible repeat (first | apply Kd.R_alloc | apply Kd.R_drewN | apply Kd.R_drew)); exact HO251.out) hb); have n1_ := Aside0.mk (Kd.R_below (by (with_reducible repeat (first | apply Kd.R_alloc | apply Kd.R_drewN | apply Kd.R_drew)); exact HO254.out) hb); have n2_ := Aside0.mk (below_step (by repeat (first | (with_reducible first | exact HB.out | apply below_alloc | apply pw_below_drewN | apply below_drew1) | exact HB.out)) hb); have n3_ := Aside0.mk (hbox); have n4_ := Aside0.mk ((by rw [hg]; exact (below_size (by repeat (first | (with_reducible first | exact HB.out | apply below_alloc | apply pw_below_drewN | apply below_drew1) | exact HB.out))) : w.heap.size ≤ gb258)); have n5_ := Aside0.mk ((by rw [hg]; exact (below_size (by repeat (first | (with_reducible first | exact HB.out | apply below_alloc | apply pw_below_drewN | apply below_drew1) | exact HB.out))) : w.heap.size ≤ gb258)); clear HO251; clear HO254; clear HB; have HO251 := n0_; have HO254 := n1_; have HB := n2_; have BK258 := n3_; have GW258 := n4_; have GE258 := n5_; clear n0_ n1_ n2_ n3_ n4_ n5_; clear hb hbox hg; have hcz55_0 : w54.cell? ⟨gb258, 0, none⟩ = some (.string (⟨#[]⟩ : ByteArray)) := (blk_cell BK258.out 0).trans rfl; have hcz55_1 : w54.cell? ⟨gb258, 1, none⟩ = some (.bool false) := (blk_cell BK258.out 1).trans rfl; have hfz55_0 := blk_frozen BK258.out 0; have hfz55_1 := blk_frozen BK258.out 1; obtain ⟨Ao56, co56, eo56⟩ := Kd.R_slice HO251.out; subst eo56; obtain ⟨Ao57, co57, eo57⟩ := Kd.R_slice HO254.out; subst eo57) | ((with_reducible refine gate_callee (f := 13) rfl ?_); refine goesL_ (some 30) rfl rfl Try.func13 (by kernel_rfl) rfl #[.string a0, .slice Ao56 t249.length co56, .slice Ao57 t252.length co57] rfl (by (try simp only [List.map_toArray, List.map_cons, List.map_nil]); first | done | rfl | (simp only [List.length_drop, List.length_take]; rfl)) ?_; (with_reducible refine (getopt_Join.calls a0 _ _ t249 _ _ t252 t260 t261 _ ?side0 ?side1 ?side2 ?side3 ?side4 A5.out).mono ?_); (case side0 => exact HOK.out.below (by first | exact (HB.out.setCell (p := ⟨_, 0, none⟩) GW258.out _).setCell (p := ⟨_, 1, none⟩) GW258.out _ | (repeat (first | (with_reducible first | exact HB.out | apply below_alloc | apply pw_below_drewN | apply below_drew1) | exact HB.out)))); (case side1 => refine (Kd.R_reads' (e := 67) (base := w.heap.size) (ok := fun k_ => True) (n := t249.length) (c := co56) ?_).2.2; exact (by (with_reducible repeat (first | apply Kd.R_alloc | apply Kd.R_drewN | apply Kd.R_drew)); exact (Kd.R_mono (Kd.R_far (p := ⟨gb258, 1, none⟩) (Kd.R_far (p := ⟨gb258, 0, none⟩) (Kd.R_types HO251.out BK258.out (by decide)) (fun _ hk => hk.2) (.string t255)) (fun _ hk => hk.2) (.bool t256)) (fun _ h_ => h_.1)))); (case side2 => exact (Kd.R_reads' HO251.out).2.1); (case side3 => refine (Kd.R_reads' (e := 9) (base := w.heap.size) (ok := fun k_ => True) (n := t252.length) (c := co57) ?_).2.2; exact (by (with_reducible repeat (first | apply Kd.R_alloc | apply Kd.R_drewN | apply Kd.R_drew)); exact (Kd.R_mono (Kd.R_far (p := ⟨gb258, 1, none⟩) (Kd.R_far (p := ⟨gb258, 0, none⟩) (Kd.R_types HO254.out BK258.out (by decide)) (fun _ hk => hk.2) (.string t255)) (fun _ hk => hk.2) (.bool t256)) (fun _ h_ => h_.1)))); (case side4 => exact (Kd.R_reads' HO254.out).2.1); rintro e w58 ⟨v262, rfl, ho0, hb⟩; refine ⟨_, rfl, ?_⟩; have n0_ := Aside0.mk (Kd.R_below (by (with_reducible repeat (first | apply Kd.R_alloc | apply Kd.R_drewN | apply Kd.R_drew)); exact (Kd.R_mono (Kd.R_far (p := ⟨gb258, 1, none⟩) (Kd.R_far (p := ⟨gb258, 0, none⟩) (Kd.R_types HO251.out BK258.out (by decide)) (fun _ hk => hk.2) (.string t255)) (fun _ hk => hk.2) (.bool t256)) (fun _ h_ => h_.1))) hb); have n1_ := Aside0.mk (Kd.R_elder' (by (with_reducible repeat (first | apply Kd.R_alloc | apply Kd.R_drewN | apply Kd.R_drew)); exact (Kd.R_mono (Kd.R_far (p := ⟨gb258, 1, none⟩) (Kd.R_far (p := ⟨gb258, 0, none⟩) (Kd.R_types HO254.out BK258.out (by decide)) (fun _ hk => hk.2) (.string t255)) (fun _ hk => hk.2) (.bool t256)) (fun _ h_ => h_.1))) (Kd.R_base ho0) hb); have n2_ := Aside0.mk (Kd.R_lower (Kd.R_new' ho0 (Kd.R_lt (by (with_reducible repeat (first | apply Kd.R_alloc | apply Kd.R_drewN | apply Kd.R_drew)); exact (Kd.R_mono (Kd.R_far (p := ⟨gb258, 1, none⟩) (Kd.R_far (p := ⟨gb258, 0, none⟩) (Kd.R_types HO254.out BK258.out (by decide)) (fun _ hk => hk.2) (.string t255)) (fun _ hk => hk.2) (.bool t256)) (fun _ h_ => h_.1))))) (below_size (by repeat (first | (with_reducible first | exact HB.out | apply below_alloc | apply pw_below_drewN | apply below_drew1 | refine below_set ?_ GE258.out) | exact HB.out)))); have n3_ := Aside0.mk (blk_below (g := gb258) (o := .cells #[.string t255, .bool t256] 25 (0, 0)) (by (with_reducible repeat (first | refine blk_drewN ?_ _ | refine blk_drew ?_ | refine blk_alloc ?_ _)); refine blk_put (cs := #[.string t255, .bool false]) ?_ 1 _ rfl; (with_reducible repeat (first | refine blk_drewN ?_ _ | refine blk_drew ?_ | refine blk_alloc ?_ _)); refine blk_put (cs := #[.string (⟨#[]⟩ : ByteArray), .bool false]) ?_ 0 _ rfl; (with_reducible repeat (first | refine blk_drewN ?_ _ | refine blk_drew ?_ | refine blk_alloc ?_ _)); exact BK258.out) hb); have n4_ := Aside0.mk (below_step (by repeat (first | (with_reducible first | exact HB.out | apply below_alloc | apply pw_below_drewN | apply below_drew1 | refine below_set ?_ GE258.out) | exact HB.out)) hb); clear HO251; clear HO254; clear BK258; clear HB; have HO251 := n0_; have HO254 := n1_; have HO263 := n2_; have BK258 := n3_; have HB := n4_; clear n0_ n1_ n2_ n3_ n4_; (try clear hb); (try clear hb2); (try clear hk); (try clear hi); (try clear ho0); obtain ⟨Ao59, co59, eo59⟩ := Kd.R_slice HO263.out; subst eo59) | ((with_reducible refine gate_callee (f := 8) rfl ?_); refine goesL_ (some 36) rfl rfl Try.func8 (by kernel_rfl) rfl #[.string a0, .slice Ao59 t260.length co59] rfl (by (try simp only [List.map_toArray, List.map_cons, List.map_nil]); first | done | rfl | (simp only [List.length_drop, List.length_take]; rfl)) ?_; (with_reducible refine (getopt_Parse.calls a0 _ _ t260 t264 t267 t270 t271 t272 _ ?side1 ?side2 A6.out).mono ?_); (case side1 => repeat (first | exact (Kd.R_reads' HO263.out).2.2 | (with_reducible refine Kd.C_alloc ?_ _) | (with_reducible refine Kd.C_drewN ?_ _) | (with_reducible refine Kd.C_drew ?_))); (case side2 => exact (Kd.R_reads' HO263.out).2.1); rintro e w60 ⟨v265, v268, rfl, ho0, ho1, hb⟩; refine ⟨_, rfl, ?_⟩; have n0_ := Aside0.mk (Kd.R_elder' (by (with_reducible repeat (first | apply Kd.R_alloc | apply Kd.R_drewN | apply Kd.R_drew)); exact HO251.out) (Kd.R_base ho0) hb); have n1_ := Aside0.mk (Kd.R_elder' (by (with_reducible repeat (first | apply Kd.R_alloc | apply Kd.R_drewN | apply Kd.R_drew)); exact HO254.out) (Kd.R_base ho1) hb); have n2_ := Aside0.mk (Kd.R_elder' (by (with_reducible repeat (first | apply Kd.R_alloc | apply Kd.R_drewN | apply Kd.R_drew)); exact HO263.out) (Kd.R_base ho1) hb); have n3_ := Aside0.mk (Kd.R_lower (Kd.R_new' ho0 (Kd.R_lt (by (with_reducible repeat (first | apply Kd.R_alloc | apply Kd.R_drewN | apply Kd.R_drew)); exact HO251.out))) (below_size (by repeat (first | (with_reducible first | exact HB.out | apply below_alloc | apply pw_below_drewN | apply below_drew1 | refine below_set ?_ GE258.out) | exact HB.out)))); have n4_ := Aside0.mk (Kd.R_lower (Kd.R_new' (Kd.R_new' ho1 (Kd.R_lt (by (with_reducible repeat (first | apply Kd.R_alloc | apply Kd.R_drewN | apply Kd.R_drew)); exact HO254.out))) (Kd.R_lt (by (with_reducible repeat (first | apply Kd.R_alloc | apply Kd.R_drewN | apply Kd.R_drew)); exact HO263.out))) (below_size (by repeat (first | (with_reducible first | exact HB.out | apply below_alloc | apply pw_below_drewN | apply below_drew1 | refine below_set ?_ GE258.out) | exact HB.out)))); have n5_ := Aside0.mk (blk_below (g := gb258) (o := .cells #[.string t255, .bool t256] 25 (0, 0)) (by (with_reducible repeat (first | refine blk_drewN ?_ _ | refine blk_drew ?_ | refine blk_alloc ?_ _)); exact BK258.out) hb); have n6_ := Aside0.mk (below_step (by repeat (first | (with_reducible first | exact HB.out | apply below_alloc | apply pw_below_drewN | apply below_drew1 | refine below_set ?_ GE258.out) | exact HB.out)) hb); clear HO251; clear HO254; clear HO263; clear BK258; clear HB; have HO251 := n0_; have HO254 := n1_; have HO263 := n2_; have HO266 := n3_; have HO269 := n4_; have BK258 := n5_; have HB := n6_; clear n0_ n1_ n2_ n3_ n4_ n5_ n6_; (try clear hb); (try clear hb2); (try clear hk); (try clear hi); (try clear ho0); (try clear ho1)) | ((with_reducible refine gate_dst (N := 13) rfl ?_); refine box_event ?hg (N := 13) ?hd (cs := #[.string (⟨#[]⟩ : ByteArray), .bool false]) (t := 25) ?hr ?_; (case hd => rfl); (case hg => rfl); (case hr => first | (go_simp; done) | (go_simp; rfl)); intro gb273 hg w61 hbox hb; have n0_ := Aside0.mk (Kd.R_below (by (with_reducible repeat (first | apply Kd.R_alloc | apply Kd.R_drewN | apply Kd.R_drew)); exact HO251.out) hb); have n1_ := Aside0.mk (Kd.R_below (by (with_reducible repeat (first | apply Kd.R_alloc | apply Kd.R_drewN | apply Kd.R_drew)); exact HO254.out) hb); have n2_ := Aside0.mk (Kd.R_below (by (with_reducible repeat (first | apply Kd.R_alloc | apply Kd.R_drewN | apply Kd.R_drew)); exact HO263.out) hb); have n3_ := Aside0.mk (Kd.R_below (by (with_reducible repeat (first | apply Kd.R_alloc | apply Kd.R_drewN | apply Kd.R_drew)); exact HO266.out) hb); have n4_ := Aside0.mk (Kd.R_below (by (with_reducible repeat (first | apply Kd.R_alloc | apply Kd.R_drewN | apply Kd.R_drew)); exact HO269.out) hb); have n5_ := Aside0.mk (blk_below (g := gb258) (o := .cells #[.string t255, .bool t256] 25 (0, 0)) (by (with_reducible repeat (first | refine blk_drewN ?_ _ | refine blk_drew ?_ | refine blk_alloc ?_ _)); exact BK258.out) hb); have n6_ := Aside0.mk (below_step (by repeat (first | (with_reducible first | exact HB.out | apply below_alloc | apply pw_below_drewN | apply below_drew1 | refine below_set ?_ GE258.out) | exact HB.out)) hb); have n7_ := Aside0.mk (hbox); have n8_ := Aside0.mk ((by rw [hg]; exact (below_size (by repeat (first | (with_reducible first | exact HB.out | apply below_alloc | apply pw_below_drewN | apply below_drew1 | refine below_set ?_ GE258.out) | exact HB.out))) : w.heap.size ≤ gb273)); have n9_ := Aside0.mk ((by rw [hg]; exact (below_size (by repeat (first | (with_reducible first | exact HB.out | apply below_alloc | apply pw_below_drewN | apply below_drew1 | refine below_set ?_ GE258.out) | exact HB.out))) : w.heap.size ≤ gb273)); have n10_ := Aside0.mk ((by rw [hg]; exact Nat.ne_of_lt (blk_lt (g := gb258) (o := .cells #[.string t255, .bool t256] 25 (0, 0)) (by (with_reducible repeat (first | refine blk_drewN ?_ _ | refine blk_drew ?_ | refine blk_alloc ?_ _)); exact BK258.out)) : gb258 ≠ gb273)); have n11_ := Aside0.mk ((by rw [hg]; exact Nat.ne_of_gt (blk_lt (g := gb258) (o := .cells #[.string t255, .bool t256] 25 (0, 0)) (by (with_reducible repeat (first | refine blk_drewN ?_ _ | refine blk_drew ?_ | refine blk_alloc ?_ _)); exact BK258.out)) : gb273 ≠ gb258)); clear HO251; clear HO254; clear HO263; clear HO266; clear HO269; clear BK258; clear HB; have HO251 := n0_; have HO254 := n1_; have HO263 := n2_; have HO266 := n3_; have HO269 := n4_; have BK258 := n5_; have HB := n6_; have BK273 := n7_; have GW273 := n8_; have GE273 := n9_; have NB258_273 := n10_; have NB273_258 := n11_; clear n0_ n1_ n2_ n3_ n4_ n5_ n6_ n7_ n8_ n9_ n10_ n11_; clear hb hbox hg; have hnb62 := NB273_258.out; have hnc62 := NB258_273.out; have hcz63_0 : w61.cell? ⟨gb273, 0, none⟩ = some (.string (⟨#[]⟩ : ByteArray)) := (blk_cell BK273.out 0).trans rfl; have hcz63_1 : w61.cell? ⟨gb273, 1, none⟩ = some (.bool false) := (blk_cell BK273.out 1).trans rfl; have hfz63_0 := blk_frozen BK273.out 0; have hfz63_1 := blk_frozen BK273.out 1))
        go_ret
        exact ⟨by first | rfl | (simp [errW_none, errW_some] <;> rfl) | (simp [*, errW_none, errW_some] <;> rfl), by repeat (first | (with_reducible first | exact HB.out | apply below_alloc | apply pw_below_drewN | apply below_drew1 | refine below_set ?_ GE258.out | refine below_set ?_ GE273.out) | exact HB.out)⟩
    · rw [if_neg c7] at H
      have c7b0 : (t261 == 0) = false := beq_eq_false_iff_ne.mpr c7
      have c7b1 : (t261 != 0) = true := bne_iff_ne.mpr c7
      obtain rfl := Option.some.inj H
      go_enter Try.func5, Try.ntmps5
      go_wp2_with (first | ((with_reducible refine gate_callee (f := 8) rfl ?_); refine goesL_ (some 18) rfl rfl Try.func8 (by kernel_rfl) rfl #[.string a0, .slice A1 l1.length c1] rfl (by (try simp only [List.map_toArray, List.map_cons, List.map_nil]); first | done | rfl | (simp only [List.length_drop, List.length_take]; rfl)) ?_; (with_reducible refine (getopt_Parse.calls a0 _ _ l1 t249 t252 t255 t256 t257 _ ?side1 ?side2 A3.out).mono ?_); (case side1 => repeat (first | exact HR1.out | (with_reducible refine Kd.C_alloc ?_ _) | (with_reducible refine Kd.C_drewN ?_ _) | (with_reducible refine Kd.C_drew ?_))); (case side2 => exact HC1.out); rintro e w64 ⟨v250, v253, rfl, ho0, ho1, hb⟩; refine ⟨_, rfl, ?_⟩; have n0_ := Aside0.mk (Kd.R_lower ho0 (below_size (by repeat (first | (with_reducible first | exact HB.out | apply below_alloc | apply pw_below_drewN | apply below_drew1) | exact HB.out)))); have n1_ := Aside0.mk (Kd.R_lower ho1 (below_size (by repeat (first | (with_reducible first | exact HB.out | apply below_alloc | apply pw_below_drewN | apply below_drew1) | exact HB.out)))); have n2_ := Aside0.mk (below_step (by repeat (first | (with_reducible first | exact HB.out | apply below_alloc | apply pw_below_drewN | apply below_drew1) | exact HB.out)) hb); clear HB; have HO251 := n0_; have HO254 := n1_; have HB := n2_; clear n0_ n1_ n2_; (try clear hb); (try clear hb2); (try clear hk); (try clear hi); (try clear ho0); (try clear ho1)) | ((with_reducible refine gate_dst (N := 7) rfl ?_); refine box_event ?hg (N := 7) ?hd (cs := #[.string (⟨#[]⟩ : ByteArray), .bool false]) (t := 25) ?hr ?_; (case hd => rfl); (case hg => rfl); (case hr => first | (go_simp; done) | (go_simp; rfl)); intro gb258 hg w65 hbox hb; have n0_ := Aside0.mk (Kd.R_below (by (with_reducible repeat (first | apply Kd.R_alloc | apply Kd.R_drewN | apply Kd.R_drew)); exact HO251.out) hb); have n1_ := Aside0.mk (Kd.R_below (by (with_reducible repeat (first | apply Kd.R_alloc | apply Kd.R_drewN | apply Kd.R_drew)); exact HO254.out) hb); have n2_ := Aside0.mk (below_step (by repeat (first | (with_reducible first | exact HB.out | apply below_alloc | apply pw_below_drewN | apply below_drew1) | exact HB.out)) hb); have n3_ := Aside0.mk (hbox); have n4_ := Aside0.mk ((by rw [hg]; exact (below_size (by repeat (first | (with_reducible first | exact HB.out | apply below_alloc | apply pw_below_drewN | apply below_drew1) | exact HB.out))) : w.heap.size ≤ gb258)); have n5_ := Aside0.mk ((by rw [hg]; exact (below_size (by repeat (first | (with_reducible first | exact HB.out | apply below_alloc | apply pw_below_drewN | apply below_drew1) | exact HB.out))) : w.heap.size ≤ gb258)); clear HO251; clear HO254; clear HB; have HO251 := n0_; have HO254 := n1_; have HB := n2_; have BK258 := n3_; have GW258 := n4_; have GE258 := n5_; clear n0_ n1_ n2_ n3_ n4_ n5_; clear hb hbox hg; have hcz66_0 : w65.cell? ⟨gb258, 0, none⟩ = some (.string (⟨#[]⟩ : ByteArray)) := (blk_cell BK258.out 0).trans rfl; have hcz66_1 : w65.cell? ⟨gb258, 1, none⟩ = some (.bool false) := (blk_cell BK258.out 1).trans rfl; have hfz66_0 := blk_frozen BK258.out 0; have hfz66_1 := blk_frozen BK258.out 1; obtain ⟨Ao67, co67, eo67⟩ := Kd.R_slice HO251.out; subst eo67; obtain ⟨Ao68, co68, eo68⟩ := Kd.R_slice HO254.out; subst eo68) | ((with_reducible refine gate_callee (f := 13) rfl ?_); refine goesL_ (some 30) rfl rfl Try.func13 (by kernel_rfl) rfl #[.string a0, .slice Ao67 t249.length co67, .slice Ao68 t252.length co68] rfl (by (try simp only [List.map_toArray, List.map_cons, List.map_nil]); first | done | rfl | (simp only [List.length_drop, List.length_take]; rfl)) ?_; (with_reducible refine (getopt_Join.calls a0 _ _ t249 _ _ t252 t260 t261 _ ?side0 ?side1 ?side2 ?side3 ?side4 A5.out).mono ?_); (case side0 => exact HOK.out.below (by first | exact (HB.out.setCell (p := ⟨_, 0, none⟩) GW258.out _).setCell (p := ⟨_, 1, none⟩) GW258.out _ | (repeat (first | (with_reducible first | exact HB.out | apply below_alloc | apply pw_below_drewN | apply below_drew1) | exact HB.out)))); (case side1 => refine (Kd.R_reads' (e := 67) (base := w.heap.size) (ok := fun k_ => True) (n := t249.length) (c := co67) ?_).2.2; exact (by (with_reducible repeat (first | apply Kd.R_alloc | apply Kd.R_drewN | apply Kd.R_drew)); exact (Kd.R_mono (Kd.R_far (p := ⟨gb258, 1, none⟩) (Kd.R_far (p := ⟨gb258, 0, none⟩) (Kd.R_types HO251.out BK258.out (by decide)) (fun _ hk => hk.2) (.string t255)) (fun _ hk => hk.2) (.bool t256)) (fun _ h_ => h_.1)))); (case side2 => exact (Kd.R_reads' HO251.out).2.1); (case side3 => refine (Kd.R_reads' (e := 9) (base := w.heap.size) (ok := fun k_ => True) (n := t252.length) (c := co68) ?_).2.2; exact (by (with_reducible repeat (first | apply Kd.R_alloc | apply Kd.R_drewN | apply Kd.R_drew)); exact (Kd.R_mono (Kd.R_far (p := ⟨gb258, 1, none⟩) (Kd.R_far (p := ⟨gb258, 0, none⟩) (Kd.R_types HO254.out BK258.out (by decide)) (fun _ hk => hk.2) (.string t255)) (fun _ hk => hk.2) (.bool t256)) (fun _ h_ => h_.1)))); (case side4 => exact (Kd.R_reads' HO254.out).2.1); rintro e w69 ⟨v262, rfl, ho0, hb⟩; refine ⟨_, rfl, ?_⟩; have n0_ := Aside0.mk (Kd.R_below (by (with_reducible repeat (first | apply Kd.R_alloc | apply Kd.R_drewN | apply Kd.R_drew)); exact (Kd.R_mono (Kd.R_far (p := ⟨gb258, 1, none⟩) (Kd.R_far (p := ⟨gb258, 0, none⟩) (Kd.R_types HO251.out BK258.out (by decide)) (fun _ hk => hk.2) (.string t255)) (fun _ hk => hk.2) (.bool t256)) (fun _ h_ => h_.1))) hb); have n1_ := Aside0.mk (Kd.R_elder' (by (with_reducible repeat (first | apply Kd.R_alloc | apply Kd.R_drewN | apply Kd.R_drew)); exact (Kd.R_mono (Kd.R_far (p := ⟨gb258, 1, none⟩) (Kd.R_far (p := ⟨gb258, 0, none⟩) (Kd.R_types HO254.out BK258.out (by decide)) (fun _ hk => hk.2) (.string t255)) (fun _ hk => hk.2) (.bool t256)) (fun _ h_ => h_.1))) (Kd.R_base ho0) hb); have n2_ := Aside0.mk (Kd.R_lower (Kd.R_new' ho0 (Kd.R_lt (by (with_reducible repeat (first | apply Kd.R_alloc | apply Kd.R_drewN | apply Kd.R_drew)); exact (Kd.R_mono (Kd.R_far (p := ⟨gb258, 1, none⟩) (Kd.R_far (p := ⟨gb258, 0, none⟩) (Kd.R_types HO254.out BK258.out (by decide)) (fun _ hk => hk.2) (.string t255)) (fun _ hk => hk.2) (.bool t256)) (fun _ h_ => h_.1))))) (below_size (by repeat (first | (with_reducible first | exact HB.out | apply below_alloc | apply pw_below_drewN | apply below_drew1 | refine below_set ?_ GE258.out) | exact HB.out)))); have n3_ := Aside0.mk (blk_below (g := gb258) (o := .cells #[.string t255, .bool t256] 25 (0, 0)) (by (with_reducible repeat (first | refine blk_drewN ?_ _ | refine blk_drew ?_ | refine blk_alloc ?_ _)); refine blk_put (cs := #[.string t255, .bool false]) ?_ 1 _ rfl; (with_reducible repeat (first | refine blk_drewN ?_ _ | refine blk_drew ?_ | refine blk_alloc ?_ _)); refine blk_put (cs := #[.string (⟨#[]⟩ : ByteArray), .bool false]) ?_ 0 _ rfl; (with_reducible repeat (first | refine blk_drewN ?_ _ | refine blk_drew ?_ | refine blk_alloc ?_ _)); exact BK258.out) hb); have n4_ := Aside0.mk (below_step (by repeat (first | (with_reducible first | exact HB.out | apply below_alloc | apply pw_below_drewN | apply below_drew1 | refine below_set ?_ GE258.out) | exact HB.out)) hb); clear HO251; clear HO254; clear BK258; clear HB; have HO251 := n0_; have HO254 := n1_; have HO263 := n2_; have BK258 := n3_; have HB := n4_; clear n0_ n1_ n2_ n3_ n4_; (try clear hb); (try clear hb2); (try clear hk); (try clear hi); (try clear ho0); obtain ⟨Ao70, co70, eo70⟩ := Kd.R_slice HO263.out; subst eo70) | ((with_reducible refine gate_callee (f := 8) rfl ?_); refine goesL_ (some 36) rfl rfl Try.func8 (by kernel_rfl) rfl #[.string a0, .slice Ao70 t260.length co70] rfl (by (try simp only [List.map_toArray, List.map_cons, List.map_nil]); first | done | rfl | (simp only [List.length_drop, List.length_take]; rfl)) ?_; (with_reducible refine (getopt_Parse.calls a0 _ _ t260 t264 t267 t270 t271 t272 _ ?side1 ?side2 A6.out).mono ?_); (case side1 => repeat (first | exact (Kd.R_reads' HO263.out).2.2 | (with_reducible refine Kd.C_alloc ?_ _) | (with_reducible refine Kd.C_drewN ?_ _) | (with_reducible refine Kd.C_drew ?_))); (case side2 => exact (Kd.R_reads' HO263.out).2.1); rintro e w71 ⟨v265, v268, rfl, ho0, ho1, hb⟩; refine ⟨_, rfl, ?_⟩; have n0_ := Aside0.mk (Kd.R_elder' (by (with_reducible repeat (first | apply Kd.R_alloc | apply Kd.R_drewN | apply Kd.R_drew)); exact HO251.out) (Kd.R_base ho0) hb); have n1_ := Aside0.mk (Kd.R_elder' (by (with_reducible repeat (first | apply Kd.R_alloc | apply Kd.R_drewN | apply Kd.R_drew)); exact HO254.out) (Kd.R_base ho1) hb); have n2_ := Aside0.mk (Kd.R_elder' (by (with_reducible repeat (first | apply Kd.R_alloc | apply Kd.R_drewN | apply Kd.R_drew)); exact HO263.out) (Kd.R_base ho1) hb); have n3_ := Aside0.mk (Kd.R_lower (Kd.R_new' ho0 (Kd.R_lt (by (with_reducible repeat (first | apply Kd.R_alloc | apply Kd.R_drewN | apply Kd.R_drew)); exact HO251.out))) (below_size (by repeat (first | (with_reducible first | exact HB.out | apply below_alloc | apply pw_below_drewN | apply below_drew1 | refine below_set ?_ GE258.out) | exact HB.out)))); have n4_ := Aside0.mk (Kd.R_lower (Kd.R_new' (Kd.R_new' ho1 (Kd.R_lt (by (with_reducible repeat (first | apply Kd.R_alloc | apply Kd.R_drewN | apply Kd.R_drew)); exact HO254.out))) (Kd.R_lt (by (with_reducible repeat (first | apply Kd.R_alloc | apply Kd.R_drewN | apply Kd.R_drew)); exact HO263.out))) (below_size (by repeat (first | (with_reducible first | exact HB.out | apply below_alloc | apply pw_below_drewN | apply below_drew1 | refine below_set ?_ GE258.out) | exact HB.out)))); have n5_ := Aside0.mk (blk_below (g := gb258) (o := .cells #[.string t255, .bool t256] 25 (0, 0)) (by (with_reducible repeat (first | refine blk_drewN ?_ _ | refine blk_drew ?_ | refine blk_alloc ?_ _)); exact BK258.out) hb); have n6_ := Aside0.mk (below_step (by repeat (first | (with_reducible first | exact HB.out | apply below_alloc | apply pw_below_drewN | apply below_drew1 | refine below_set ?_ GE258.out) | exact HB.out)) hb); clear HO251; clear HO254; clear HO263; clear BK258; clear HB; have HO251 := n0_; have HO254 := n1_; have HO263 := n2_; have HO266 := n3_; have HO269 := n4_; have BK258 := n5_; have HB := n6_; clear n0_ n1_ n2_ n3_ n4_ n5_ n6_; (try clear hb); (try clear hb2); (try clear hk); (try clear hi); (try clear ho0); (try clear ho1)) | ((with_reducible refine gate_dst (N := 13) rfl ?_); refine box_event ?hg (N := 13) ?hd (cs := #[.string (⟨#[]⟩ : ByteArray), .bool false]) (t := 25) ?hr ?_; (case hd => rfl); (case hg => rfl); (case hr => first | (go_simp; done) | (go_simp; rfl)); intro gb273 hg w72 hbox hb; have n0_ := Aside0.mk (Kd.R_below (by (with_reducible repeat (first | apply Kd.R_alloc | apply Kd.R_drewN | apply Kd.R_drew)); exact HO251.out) hb); have n1_ := Aside0.mk (Kd.R_below (by (with_reducible repeat (first | apply Kd.R_alloc | apply Kd.R_drewN | apply Kd.R_drew)); exact HO254.out) hb); have n2_ := Aside0.mk (Kd.R_below (by (with_reducible repeat (first | apply Kd.R_alloc | apply Kd.R_drewN | apply Kd.R_drew)); exact HO263.out) hb); have n3_ := Aside0.mk (Kd.R_below (by (with_reducible repeat (first | apply Kd.R_alloc | apply Kd.R_drewN | apply Kd.R_drew)); exact HO266.out) hb); have n4_ := Aside0.mk (Kd.R_below (by (with_reducible repeat (first | apply Kd.R_alloc | apply Kd.R_drewN | apply Kd.R_drew)); exact HO269.out) hb); have n5_ := Aside0.mk (blk_below (g := gb258) (o := .cells #[.string t255, .bool t256] 25 (0, 0)) (by (with_reducible repeat (first | refine blk_drewN ?_ _ | refine blk_drew ?_ | refine blk_alloc ?_ _)); exact BK258.out) hb); have n6_ := Aside0.mk (below_step (by repeat (first | (with_reducible first | exact HB.out | apply below_alloc | apply pw_below_drewN | apply below_drew1 | refine below_set ?_ GE258.out) | exact HB.out)) hb); have n7_ := Aside0.mk (hbox); have n8_ := Aside0.mk ((by rw [hg]; exact (below_size (by repeat (first | (with_reducible first | exact HB.out | apply below_alloc | apply pw_below_drewN | apply below_drew1 | refine below_set ?_ GE258.out) | exact HB.out))) : w.heap.size ≤ gb273)); have n9_ := Aside0.mk ((by rw [hg]; exact (below_size (by repeat (first | (with_reducible first | exact HB.out | apply below_alloc | apply pw_below_drewN | apply below_drew1 | refine below_set ?_ GE258.out) | exact HB.out))) : w.heap.size ≤ gb273)); have n10_ := Aside0.mk ((by rw [hg]; exact Nat.ne_of_lt (blk_lt (g := gb258) (o := .cells #[.string t255, .bool t256] 25 (0, 0)) (by (with_reducible repeat (first | refine blk_drewN ?_ _ | refine blk_drew ?_ | refine blk_alloc ?_ _)); exact BK258.out)) : gb258 ≠ gb273)); have n11_ := Aside0.mk ((by rw [hg]; exact Nat.ne_of_gt (blk_lt (g := gb258) (o := .cells #[.string t255, .bool t256] 25 (0, 0)) (by (with_reducible repeat (first | refine blk_drewN ?_ _ | refine blk_drew ?_ | refine blk_alloc ?_ _)); exact BK258.out)) : gb273 ≠ gb258)); clear HO251; clear HO254; clear HO263; clear HO266; clear HO269; clear BK258; clear HB; have HO251 := n0_; have HO254 := n1_; have HO263 := n2_; have HO266 := n3_; have HO269 := n4_; have BK258 := n5_; have HB := n6_; have BK273 := n7_; have GW273 := n8_; have GE273 := n9_; have NB258_273 := n10_; have NB273_258 := n11_; clear n0_ n1_ n2_ n3_ n4_ n5_ n6_ n7_ n8_ n9_ n10_ n11_; clear hb hbox hg; have hnb73 := NB273_258.out; have hnc73 := NB258_273.out; have hcz74_0 : w72.cell? ⟨gb273, 0, none⟩ = some (.string (⟨#[]⟩ : ByteArray)) := (blk_cell BK273.out 0).trans rfl; have hcz74_1 : w72.cell? ⟨gb273, 1, none⟩ = some (.bool false) := (blk_cell BK273.out 1).trans rfl; have hfz74_0 := blk_frozen BK273.out 0; have hfz74_1 := blk_frozen BK273.out 1))
      go_ret
      exact ⟨by first | rfl | (simp [errW_none, errW_some] <;> rfl) | (simp [*, errW_none, errW_some] <;> rfl), by repeat (first | (with_reducible first | exact HB.out | apply below_alloc | apply pw_below_drewN | apply below_drew1 | refine below_set ?_ GE258.out | refine below_set ?_ GE273.out) | exact HB.out)⟩
  · rw [if_neg c4] at H
    have c4b0 : (t257 == 0) = false := beq_eq_false_iff_ne.mpr c4
    have c4b1 : (t257 != 0) = true := bne_iff_ne.mpr c4
    replace H := Option.bind_eq_some_iff.mp H
    obtain ⟨t259, A750, H⟩ := H
    replace H : (some t259) = some r := H
    have A75 := Aside0.mk A750
    clear A750
    obtain rfl := Option.some.inj H
    go_enter Try.func5, Try.ntmps5
    go_wp2_with (first | ((with_reducible refine gate_callee (f := 8) rfl ?_); refine goesL_ (some 18) rfl rfl Try.func8 (by kernel_rfl) rfl #[.string a0, .slice A1 l1.length c1] rfl (by (try simp only [List.map_toArray, List.map_cons, List.map_nil]); first | done | rfl | (simp only [List.length_drop, List.length_take]; rfl)) ?_; (with_reducible refine (getopt_Parse.calls a0 _ _ l1 t249 t252 t255 t256 t257 _ ?side1 ?side2 A3.out).mono ?_); (case side1 => repeat (first | exact HR1.out | (with_reducible refine Kd.C_alloc ?_ _) | (with_reducible refine Kd.C_drewN ?_ _) | (with_reducible refine Kd.C_drew ?_))); (case side2 => exact HC1.out); rintro e w76 ⟨v250, v253, rfl, ho0, ho1, hb⟩; refine ⟨_, rfl, ?_⟩; have n0_ := Aside0.mk (Kd.R_lower ho0 (below_size (by repeat (first | (with_reducible first | exact HB.out | apply below_alloc | apply pw_below_drewN | apply below_drew1) | exact HB.out)))); have n1_ := Aside0.mk (Kd.R_lower ho1 (below_size (by repeat (first | (with_reducible first | exact HB.out | apply below_alloc | apply pw_below_drewN | apply below_drew1) | exact HB.out)))); have n2_ := Aside0.mk (below_step (by repeat (first | (with_reducible first | exact HB.out | apply below_alloc | apply pw_below_drewN | apply below_drew1) | exact HB.out)) hb); clear HB; have HO251 := n0_; have HO254 := n1_; have HB := n2_; clear n0_ n1_ n2_; (try clear hb); (try clear hb2); (try clear hk); (try clear hi); (try clear ho0); (try clear ho1)) | ((with_reducible refine gate_dst (N := 7) rfl ?_); refine box_event ?hg (N := 7) ?hd (cs := #[.string (⟨#[]⟩ : ByteArray), .bool false]) (t := 25) ?hr ?_; (case hd => rfl); (case hg => rfl); (case hr => first | (go_simp; done) | (go_simp; rfl)); intro gb258 hg w77 hbox hb; have n0_ := Aside0.mk (Kd.R_below (by (with_reducible repeat (first | apply Kd.R_alloc | apply Kd.R_drewN | apply Kd.R_drew)); exact HO251.out) hb); have n1_ := Aside0.mk (Kd.R_below (by (with_reducible repeat (first | apply Kd.R_alloc | apply Kd.R_drewN | apply Kd.R_drew)); exact HO254.out) hb); have n2_ := Aside0.mk (below_step (by repeat (first | (with_reducible first | exact HB.out | apply below_alloc | apply pw_below_drewN | apply below_drew1) | exact HB.out)) hb); have n3_ := Aside0.mk (hbox); have n4_ := Aside0.mk ((by rw [hg]; exact (below_size (by repeat (first | (with_reducible first | exact HB.out | apply below_alloc | apply pw_below_drewN | apply below_drew1) | exact HB.out))) : w.heap.size ≤ gb258)); have n5_ := Aside0.mk ((by rw [hg]; exact (below_size (by repeat (first | (with_reducible first | exact HB.out | apply below_alloc | apply pw_below_drewN | apply below_drew1) | exact HB.out))) : w.heap.size ≤ gb258)); clear HO251; clear HO254; clear HB; have HO251 := n0_; have HO254 := n1_; have HB := n2_; have BK258 := n3_; have GW258 := n4_; have GE258 := n5_; clear n0_ n1_ n2_ n3_ n4_ n5_; clear hb hbox hg; have hcz78_0 : w77.cell? ⟨gb258, 0, none⟩ = some (.string (⟨#[]⟩ : ByteArray)) := (blk_cell BK258.out 0).trans rfl; have hcz78_1 : w77.cell? ⟨gb258, 1, none⟩ = some (.bool false) := (blk_cell BK258.out 1).trans rfl; have hfz78_0 := blk_frozen BK258.out 0; have hfz78_1 := blk_frozen BK258.out 1) | ((with_reducible refine gate_callee (f := 12) rfl ?_); refine goesL_ (some 25) rfl rfl Try.func12 (by kernel_rfl) rfl #[] rfl (by (try simp only [List.map_toArray, List.map_cons, List.map_nil]); first | done | rfl | (simp only [List.length_drop, List.length_take]; rfl)) ?_; (with_reducible refine (tinsellaw09_lives.calls k  t259 _ A75.out).mono ?_); rintro e w79 ⟨rfl, hb⟩; refine ⟨_, rfl, ?_⟩; have n0_ := Aside0.mk (Kd.R_below (by (with_reducible repeat (first | apply Kd.R_alloc | apply Kd.R_drewN | apply Kd.R_drew)); exact (Kd.R_mono (Kd.R_far (p := ⟨gb258, 1, none⟩) (Kd.R_far (p := ⟨gb258, 0, none⟩) (Kd.R_types HO251.out BK258.out (by decide)) (fun _ hk => hk.2) (.string t255)) (fun _ hk => hk.2) (.bool t256)) (fun _ h_ => h_.1))) hb); have n1_ := Aside0.mk (Kd.R_below (by (with_reducible repeat (first | apply Kd.R_alloc | apply Kd.R_drewN | apply Kd.R_drew)); exact (Kd.R_mono (Kd.R_far (p := ⟨gb258, 1, none⟩) (Kd.R_far (p := ⟨gb258, 0, none⟩) (Kd.R_types HO254.out BK258.out (by decide)) (fun _ hk => hk.2) (.string t255)) (fun _ hk => hk.2) (.bool t256)) (fun _ h_ => h_.1))) hb); have n2_ := Aside0.mk (blk_below (g := gb258) (o := .cells #[.string t255, .bool t256] 25 (0, 0)) (by (with_reducible repeat (first | refine blk_drewN ?_ _ | refine blk_drew ?_ | refine blk_alloc ?_ _)); refine blk_put (cs := #[.string t255, .bool false]) ?_ 1 _ rfl; (with_reducible repeat (first | refine blk_drewN ?_ _ | refine blk_drew ?_ | refine blk_alloc ?_ _)); refine blk_put (cs := #[.string (⟨#[]⟩ : ByteArray), .bool false]) ?_ 0 _ rfl; (with_reducible repeat (first | refine blk_drewN ?_ _ | refine blk_drew ?_ | refine blk_alloc ?_ _)); exact BK258.out) hb); have n3_ := Aside0.mk (below_step (by repeat (first | (with_reducible first | exact HB.out | apply below_alloc | apply pw_below_drewN | apply below_drew1 | refine below_set ?_ GE258.out) | exact HB.out)) hb); clear HO251; clear HO254; clear BK258; clear HB; have HO251 := n0_; have HO254 := n1_; have BK258 := n2_; have HB := n3_; clear n0_ n1_ n2_ n3_; (try clear hb); (try clear hb2); (try clear hk); (try clear hi)))
    go_ret
    exact ⟨by first | rfl | (simp [errW_none, errW_some] <;> rfl) | (simp [*, errW_none, errW_some] <;> rfl), by repeat (first | (with_reducible first | exact HB.out | apply below_alloc | apply pw_below_drewN | apply below_drew1 | refine below_set ?_ GE258.out) | exact HB.out)⟩

end Go.Proofs.Ytcmicndmaaaknaa.G


/- Plain laws without Go: the reference's Join comes to what getopt.Join comes to; what Join writes, Parse reads again. -/
namespace Go.Proofs.Ytcmicndmaaaknaa.G
open Go.RowKit Go.Proofs.YtcmicndmaaaknaaW.PrintWords
set_option linter.unusedVariables false
set_option linter.unusedSimpArgs false

/-- Join's answer, behind a spec that is one -/
def jans (r : Option (List ByteArray)) (l2 : List ByteArray) : List ByteArray × Int :=
  match r with
  | none => ([], 22)
  | some out => ((out ++ [mkB [45, 45]]) ++ l2, 0)

theorem list_one {f : ByteArray} (h : f.size = 1) : ∃ b, f = mkB [b] := by
  have hdl := data_length f
  cases hd : f.data.toList with
  | nil => rw [hd] at hdl; simp at hdl; omega
  | cons b t =>
    cases t with
    | nil => exact ⟨b, eq_mkB hd⟩
    | cons c t => rw [hd] at hdl; simp at hdl; omega
theorem size_ne {g : ByteArray} : (g.toList != ([] : List UInt8)) = !decide (g.size = 0) := by
  have hdl := data_length g
  rw [ByteArray.toList_eq, Bool.eq_iff_iff]
  simp only [bne_iff_ne, ne_eq, Bool.not_eq_true', decide_eq_false_iff_not]
  constructor
  · intro h h0; exact h (List.eq_nil_of_length_eq_zero (by omega))
  · intro h h0; rw [h0] at hdl; exact h hdl.symm
theorem rd_get (l : List S67) (i : Nat) (h : i < l.length) : rd_T67 l (i : Int) = l[i]'h := by
  unfold rd_T67
  rw [show (i : Int).toNat = i from by omega, List.getD_eq_getElem?_getD, List.getElem?_eq_getElem h]
  rfl

theorem ref_jloop (a0 : ByteArray) (l1 : List S67) (l2 : List ByteArray) (fi : Bool) (ls ts : List UInt8) (hspec : specOf a0 = some (fi, ls, ts)) (ha : a0.size ≤ 140737488355328) (hc : l1.length + l2.length ≤ 1099511627776) (d : Nat) :
    ∀ (i : Nat) (out : List ByteArray), i + d = l1.length → out.length ≤ 2 * i → Ev (fun k => tinselref09_Join.l0 k a0 l2 out l1 (l1.length : Int) i) (jans (jloop ls ts (l1.drop i) out) l2) := by
  induction d with
  | zero =>
    intro i out hd ho
    rw [List.drop_eq_nil_of_le (by omega)]
    refine Ev.step (f := fun _ => some ((out ++ [mkB [45, 45]]) ++ l2, 0)) (fun k => ?_) (Ev.now _)
    simp only [tinselref09_Join.l0]
    rw [if_neg (by omega), if_pos (by omega)]
    simp only [Option.bind_some]
    rw [if_pos (by rw [List.length_append, List.length_singleton]; omega)]
    rfl
  | succ d ih =>
    intro i out hd ho
    have hi : i < l1.length := by omega
    rw [List.drop_eq_getElem_cons hi]
    have hrd := rd_get l1 i hi
    obtain ⟨o, hoe⟩ : ∃ o, o = l1[i]'hi := ⟨_, rfl⟩
    rw [← hoe] at hrd ⊢
    by_cases h1 : o.f0.size = 1
    · obtain ⟨b, hb⟩ := list_one h1
      obtain ⟨w, htk, hw⟩ := takes_pure hspec ha b
      have hbt : bt o.f0 0 = (b.toNat : Int) := by rw [hb]; exact bt_mkB [b] 0 (by simp)
      have hj : jloop ls ts (o :: l1.drop (i + 1)) out = if ls.contains b = false then none else if ts.contains b = false then (if o.f1.size = 0 then jloop ls ts (l1.drop (i + 1)) (out ++ [mkB [45, b]]) else none) else jloop ls ts (l1.drop (i + 1)) (out ++ [mkB [45, b]] ++ [o.f1]) := by
        rw [jloop, hb, mkB_data]
      have hpb : (⟨#[45]⟩ : ByteArray) ++ o.f0 = mkB [45, b] := by rw [hb]; rfl
      rw [hj]
      refine Ev.step (f := fun k => (tinselref09_takes.f k a0 (bt o.f0 0)).bind fun p => if p.1 = true then (if p.2 = true then tinselref09_Join.j1 k a0 l2 out p.2 l1 (l1.length : Int) i false o.f0 o.f1 else tinselref09_Join.j1 k a0 l2 out p.2 l1 (l1.length : Int) i (o.f1.toList != ([] : List UInt8)) o.f0 o.f1) else tinselref09_Join.j1 k a0 l2 out p.2 l1 (l1.length : Int) i true o.f0 o.f1) (fun k => ?_) ?_
      · simp only [tinselref09_Join.l0]
        rw [if_pos (by omega), if_pos (by omega), if_pos (by omega), hrd, if_pos (by omega), if_pos (by omega)]
      · rw [hbt]
        refine Ev.bind htk ?_
        by_cases hl : ls.contains b = false
        · rw [if_pos hl]
          simp only [hl]
          refine Ev.congr (fun k => if_neg (by simp)) (Ev.step (f := fun _ => some (([] : List ByteArray), (22 : Int))) (fun k => ?_) (Ev.now _))
          simp only [tinselref09_Join.j1, if_true]
        · have hl2 : ls.contains b = true := by simpa using hl
          rw [if_neg hl]
          have hwe := hw hl2
          subst hwe
          simp only [hl2]
          refine Ev.congr (fun k => if_pos trivial) ?_
          by_cases ht : ts.contains b = false
          · rw [if_pos ht]
            simp only [ht]
            refine Ev.congr (fun k => if_neg (by simp)) ?_
            rw [size_ne]
            by_cases hg : o.f1.size = 0
            · rw [if_pos hg, show (!decide (o.f1.size = 0)) = false from by simp [hg]]
              refine Ev.step (fun k => ?_) (ih (i + 1) (out ++ [mkB [45, b]]) (by omega) (by rw [List.length_append, List.length_singleton]; omega))
              simp only [tinselref09_Join.j1]
              rw [if_neg (by simp), if_pos (by omega), if_pos (by omega), hpb]
              simp only [Option.bind_some]
              rw [if_neg (by simp), wr64 (by omega) (by omega)]
              rfl
            · rw [if_neg hg, show (!decide (o.f1.size = 0)) = true from by simp [hg]]
              refine Ev.step (f := fun _ => some (([] : List ByteArray), (22 : Int))) (fun k => ?_) (Ev.now _)
              simp only [tinselref09_Join.j1, if_true]
          · have ht2 : ts.contains b = true := by simpa using ht
            rw [if_neg ht]
            simp only [ht2]
            refine Ev.congr (fun k => if_pos trivial) ?_
            refine Ev.step (fun k => ?_) (ih (i + 1) (out ++ [mkB [45, b]] ++ [o.f1]) (by omega) (by rw [List.length_append, List.length_append, List.length_singleton, List.length_singleton]; omega))
            simp only [tinselref09_Join.j1]
            rw [if_neg (by simp), if_pos (by omega), if_pos (by omega), hpb]
            simp only [Option.bind_some]
            rw [if_pos trivial, if_pos (by rw [List.length_append, List.length_singleton]; omega), wr64 (by omega) (by omega)]
            rfl
    · have hj : jloop ls ts (o :: l1.drop (i + 1)) out = none := by
        have hdl := data_length o.f0
        rw [jloop]
        cases hd : o.f0.data.toList with
        | nil => rfl
        | cons b t =>
          cases t with
          | nil => rw [hd] at hdl; simp at hdl; omega
          | cons c t => rfl
      rw [hj]
      refine Ev.step (f := fun _ => some (([] : List ByteArray), (22 : Int))) (fun k => ?_) (Ev.now _)
      simp only [tinselref09_Join.l0]
      rw [if_pos (by omega), if_pos (by omega), if_pos (by omega), hrd, if_neg (by omega)]

theorem join_some {a0 : ByteArray} {l1 : List S67} {l2 : List ByteArray} (hc : l1.length + l2.length ≤ 1099511627776) (ha : a0.size ≤ 140737488355328) :
    ∃ r, getopt_Join.f a0 l1 l2 = some r ∧ Ev (fun k => tinselref09_Join.f k a0 l1 l2) r ∧ r.1.length ≤ 2 * l1.length + 1 + l2.length := by
  have hsp := spec_pure a0 ha
  unfold getopt_Join.f tinselref09_Join.f
  rw [if_pos ⟨hc, ha⟩]
  cases hs : specOf a0 with
  | none =>
    rw [hs] at hsp
    exact ⟨_, rfl, Ev.bind hsp (Ev.now _), by simp⟩
  | some p =>
    obtain ⟨fi, ls, ts⟩ := p
    rw [hs] at hsp
    have hl := ref_jloop a0 l1 l2 fi ls ts hs ha hc l1.length 0 [] (by omega) (by simp)
    have hlen : ∀ (l : List S67) (out o2 : List ByteArray), jloop ls ts l out = some o2 → o2.length ≤ out.length + 2 * l.length := by
      intro l
      induction l with
      | nil => intro out o2 h; rw [jloop] at h; injection h with h; subst h; omega
      | cons o r ih =>
        intro out o2 h
        rw [jloop] at h
        split at h
        · split at h
          · cases h
          · split at h
            · split at h
              · have := ih _ _ h; rw [List.length_append, List.length_singleton] at this; rw [List.length_cons]; omega
              · cases h
            · have := ih _ _ h; rw [List.length_append, List.length_append, List.length_singleton, List.length_singleton] at this; rw [List.length_cons]; omega
        · cases h
    rw [List.drop_zero] at hl
    cases hj : jloop ls ts l1 [] with
    | none =>
      rw [hj] at hl
      exact ⟨([], 22), by simp only [hj], Ev.bind hsp hl, by simp⟩
    | some out =>
      rw [hj] at hl
      have := hlen _ _ _ hj
      refine ⟨((out ++ [mkB [45, 45]]) ++ l2, 0), by simp only [hj], Ev.bind hsp hl, ?_⟩
      simp only [List.length_append, List.length_singleton, List.length_nil] at this ⊢
      omega

/-- THE LAW GetoptJoins, PLAIN. -/
theorem joins_pure (a0 : ByteArray) (l1 : List S67) (l2 : List ByteArray) (hc : l1.length + l2.length ≤ 1099511627776) (ha : a0.size ≤ 140737488355328) : Ev (fun k => tinsellaw09_GetoptJoins.f k a0 l1 l2) true := by
  obtain ⟨r, hr, href, hlen⟩ := join_some hc ha
  unfold tinsellaw09_GetoptJoins.f
  simp only [hr, Option.bind_some]
  refine Ev.bind href ?_
  refine Ev.congr (fun k => if_pos rfl) ?_
  refine Ev.bind (texts_same r.1 (by omega)) ?_
  refine Ev.congr (fun k => if_pos rfl) ?_
  exact Ev.bind lives_true (Ev.now _)

/-! ### Back -/
/-- an option that a parse may tell -/
def GoodO (ls ts : List UInt8) (o : S67) : Prop := ∃ b, o.f0 = mkB [b] ∧ ls.contains b = true ∧ (ts.contains b = false → o.f1 = mkB [])
def owt (os : List S67) : Nat := (os.map fun o => o.f1.size + 4).sum
theorem owt_nil : owt [] = 0 := rfl
theorem owt_add (a b : List S67) : owt (a ++ b) = owt a + owt b := by simp [owt]
theorem owt_one (o : S67) : owt [o] = o.f1.size + 4 := by simp [owt]

theorem clus_good {ls ts : List UInt8} : ∀ (a : List UInt8) (args : List ByteArray) (os : List S67) {os' : List S67} {args' : List ByteArray}, clus ls ts a args os = .inr (os', args') → (∀ o ∈ os, GoodO ls ts o) →
    (∀ o ∈ os', GoodO ls ts o) ∧ owt os' + 4 * weight args' ≤ owt os + 4 * a.length + 4 * weight args := by
  intro a
  induction a with
  | nil =>
    intro args os os' args' h hg
    simp only [clus] at h
    injection h with h
    injection h with h1 h2
    subst h1 h2
    exact ⟨hg, by simp⟩
  | cons b r ih =>
    intro args os os' args' h hg
    unfold clus at h
    by_cases h1 : ls.contains b = false
    · rw [if_pos h1] at h; cases h
    · rw [if_neg h1] at h
      have h1' : ls.contains b = true := by simpa using h1
      by_cases h2 : ts.contains b = false
      · rw [if_pos h2] at h
        have hg2 : ∀ o ∈ os ++ [(⟨oneB b, mkB []⟩ : S67)], GoodO ls ts o := by
          intro o ho
          rcases List.mem_append.1 ho with ho | ho
          · exact hg o ho
          · rw [List.mem_singleton.1 ho]; exact ⟨b, rfl, h1', fun _ => rfl⟩
        obtain ⟨i1, i2⟩ := ih args _ h hg2
        refine ⟨i1, ?_⟩
        rw [owt_add, owt_one] at i2
        simp only [mkB_size, List.length_nil, List.length_cons] at i2 ⊢
        omega
      · rw [if_neg h2] at h
        by_cases h3 : r.isEmpty = false
        · rw [if_pos h3] at h
          injection h with h
          injection h with e1 e2
          subst e1 e2
          refine ⟨?_, ?_⟩
          · intro o ho
            rcases List.mem_append.1 ho with ho | ho
            · exact hg o ho
            · rw [List.mem_singleton.1 ho]; exact ⟨b, rfl, h1', fun e => absurd e h2⟩
          · rw [owt_add, owt_one]
            simp only [mkB_size, List.length_cons]
            omega
        · rw [if_neg h3] at h
          cases args with
          | nil => cases h
          | cons x xs =>
            injection h with h
            injection h with e1 e2
            subst e1 e2
            refine ⟨?_, ?_⟩
            · intro o ho
              rcases List.mem_append.1 ho with ho | ho
              · exact hg o ho
              · rw [List.mem_singleton.1 ho]; exact ⟨b, rfl, h1', fun e => absurd e h2⟩
            · rw [owt_add, owt_one, wt_cons]
              simp only [List.length_cons]
              omega

theorem wt_add (a b : List ByteArray) : weight (a ++ b) = weight a + weight b := by simp [weight]
theorem wt_one (a : ByteArray) : weight [a] = a.size + 1 := by simp [weight]

theorem ploop_good (fi : Bool) (ls ts : List UInt8) (f : Nat) : ∀ (args : List ByteArray) (os : List S67) (rs : List ByteArray), (∀ o ∈ os, GoodO ls ts o) →
    (∀ o ∈ (ploop fi ls ts f args os rs).1, GoodO ls ts o) ∧ owt (ploop fi ls ts f args os rs).1 + 4 * weight (ploop fi ls ts f args os rs).2.1 ≤ owt os + 4 * weight args + 4 * weight rs := by
  induction f with
  | zero => intro args os rs hg; exact ⟨hg, by simp only [ploop]; omega⟩
  | succ f ih =>
    intro args os rs hg
    cases args with
    | nil => exact ⟨hg, by simp only [ploop]; omega⟩
    | cons x xs =>
      unfold ploop
      by_cases hd : dashes x = true
      · rw [if_pos hd]
        exact ⟨hg, by simp only [wt_add, wt_cons]; omega⟩
      · rw [if_neg hd]
        by_cases hc : isClus x = true
        · rw [if_pos hc]
          cases hq : clus ls ts (x.data.toList.drop 1) xs os with
          | inl p => exact ⟨(fun o ho => by cases ho), by simp [owt, weight]⟩
          | inr p =>
            obtain ⟨os', args'⟩ := p
            obtain ⟨g1, g2⟩ := clus_good _ _ _ hq hg
            obtain ⟨i1, i2⟩ := ih args' os' rs g1
            have h3 := data_length x
            rw [List.length_drop] at g2
            refine ⟨i1, ?_⟩
            rw [wt_cons]
            simp only
            omega
        · rw [if_neg hc]
          cases fi with
          | true =>
            rw [if_pos rfl]
            exact ⟨hg, by simp only [wt_add, wt_cons, show weight [] = 0 from rfl]; omega⟩
          | false =>
            rw [if_neg (by decide)]
            obtain ⟨i1, i2⟩ := ih xs os (rs ++ [x]) hg
            refine ⟨i1, ?_⟩
            rw [wt_add, wt_one] at i2
            rw [wt_cons]
            omega

/-- what Join writes for options -/
def flatO (ts : List UInt8) : List S67 → List ByteArray
  | [] => []
  | o :: r => match o.f0.data.toList with
    | [b] => if ts.contains b = false then mkB [45, b] :: flatO ts r else mkB [45, b] :: o.f1 :: flatO ts r
    | _ => flatO ts r

theorem jloop_good {ls ts : List UInt8} : ∀ (l : List S67) (out : List ByteArray), (∀ o ∈ l, GoodO ls ts o) → jloop ls ts l out = some (out ++ flatO ts l) := by
  intro l
  induction l with
  | nil => intro out _; simp [jloop, flatO]
  | cons o r ih =>
    intro out hg
    obtain ⟨b, hb, hl, ht⟩ := hg o (List.mem_cons_self ..)
    have hr := fun out => ih out (fun o h => hg o (List.mem_cons_of_mem _ h))
    rw [jloop, flatO, hb, mkB_data]
    simp only
    rw [if_neg (by rw [hl]; decide)]
    by_cases h : ts.contains b = false
    · rw [if_pos h, if_pos h, if_pos (by rw [ht h]; rfl), hr, List.append_assoc]
      rfl
    · rw [if_neg h, if_neg h, hr, List.append_assoc, List.append_assoc]
      rfl

theorem flat_wt {ls ts : List UInt8} : ∀ (l : List S67), (∀ o ∈ l, GoodO ls ts o) → weight (flatO ts l) ≤ owt l := by
  intro l
  induction l with
  | nil => intro _; exact Nat.le_refl _
  | cons o r ih =>
    intro hg
    obtain ⟨b, hb, hl, ht⟩ := hg o (List.mem_cons_self ..)
    have hr := ih (fun o h => hg o (List.mem_cons_of_mem _ h))
    rw [show o :: r = [o] ++ r from rfl, owt_add, owt_one]
    rw [List.singleton_append, flatO, hb, mkB_data]
    simp only
    split <;> simp only [wt_cons, mkB_size, List.length_cons, List.length_nil] <;> omega

theorem back_loop {ls ts : List UInt8} (fi : Bool) (hlet : ∀ b ∈ ls, isLet b = true) : ∀ (l : List S67) (n : Nat) (os : List S67) (rest : List ByteArray), (∀ o ∈ l, GoodO ls ts o) → l.length < n →
    ploop fi ls ts n (flatO ts l ++ (mkB [45, 45] :: rest)) os [] = (os ++ l, rest, mkB [], false, 0) := by
  intro l
  induction l with
  | nil =>
    intro n os rest _ hn
    cases n with
    | zero => omega
    | succ n =>
      rw [flatO, List.nil_append, ploop, if_pos (by rfl)]
      simp
  | cons o r ih =>
    intro n os rest hg hn
    obtain ⟨b, hb, hl, ht⟩ := hg o (List.mem_cons_self ..)
    have hr := fun n os h => ih n os rest (fun o h => hg o (List.mem_cons_of_mem _ h)) h
    have hlb := hlet b (List.contains_iff_mem.1 hl)
    have h45 : b ≠ 45 := by
      intro e
      rw [e] at hlb
      exact absurd hlb (by decide)
    have hda : ¬ dashes (mkB [45, b]) = true := by
      unfold dashes
      rw [mkB_data]
      simp [h45]
    have hic : isClus (mkB [45, b]) = true := by
      unfold isClus
      rw [mkB_data, mkB_size]
      rfl
    cases n with
    | zero => omega
    | succ n =>
      rw [List.length_cons] at hn
      by_cases h : ts.contains b = false
      · have hf : flatO ts (o :: r) = mkB [45, b] :: flatO ts r := by
          rw [flatO, hb, mkB_data]
          simp only
          rw [if_pos h]
        have ho : (⟨oneB b, mkB []⟩ : S67) = o := by
          have := ht h
          cases o
          simp only at hb this
          rw [hb, this]; rfl
        rw [hf, List.cons_append, ploop, if_neg hda, if_pos hic, mkB_data]
        simp only [List.drop_succ_cons, List.drop_zero]
        unfold clus
        rw [if_neg (by rw [hl]; decide), if_pos h]
        unfold clus
        simp only
        rw [hr n _ (by omega), ho, List.append_assoc]
        rfl
      · have hf : flatO ts (o :: r) = mkB [45, b] :: o.f1 :: flatO ts r := by
          rw [flatO, hb, mkB_data]
          simp only
          rw [if_neg h]
        have ho : (⟨oneB b, o.f1⟩ : S67) = o := by
          cases o
          simp only at hb
          rw [hb]; rfl
        rw [hf, List.cons_append, ploop, if_neg hda, if_pos hic, mkB_data]
        simp only [List.drop_succ_cons, List.drop_zero]
        unfold clus
        rw [if_neg (by rw [hl]; decide), if_neg h, if_neg (by simp)]
        simp only [List.cons_append]
        rw [hr n _ (by omega), ho, List.append_assoc]
        rfl

theorem flat_len {ls ts : List UInt8} : ∀ (l : List S67), (∀ o ∈ l, GoodO ls ts o) → l.length ≤ (flatO ts l).length := by
  intro l
  induction l with
  | nil => intro _; exact Nat.le_refl _
  | cons o r ih =>
    intro hg
    obtain ⟨b, hb, hl, ht⟩ := hg o (List.mem_cons_self ..)
    have hr := ih (fun o h => hg o (List.mem_cons_of_mem _ h))
    rw [flatO, hb, mkB_data]
    simp only
    split <;> simp only [List.length_cons] <;> omega

/-- THE LAW GetoptBack, PLAIN. -/
theorem back_pure (a0 : ByteArray) (l : List ByteArray) (hw : weight l ≤ 274877906940) (ha : a0.size ≤ 140737488355328) : Ev (fun k => tinsellaw09_GetoptBack.f k a0 l) true := by
  have hlw := len_wt l
  unfold tinsellaw09_GetoptBack.f
  cases hs : specOf a0 with
  | none =>
    have hp : getopt_Parse.f a0 l = some ([], [], mkB [], false, 22) := by
      unfold getopt_Parse.f
      rw [if_pos ⟨by omega, ha⟩, hs]
    simp only [hp, Option.bind_some]
    refine Ev.congr (fun k => if_neg (by decide)) ?_
    exact Ev.bind lives_true (Ev.now _)
  | some p =>
    obtain ⟨fi, ls, ts⟩ := p
    have hp : getopt_Parse.f a0 l = some (ploop fi ls ts l.length l [] []) := by
      unfold getopt_Parse.f
      rw [if_pos ⟨by omega, ha⟩, hs]
    have hlen := parse_len hp
    obtain ⟨g1, g2⟩ := ploop_good fi ls ts l.length l [] [] (fun o ho => by cases ho)
    simp only [hp, Option.bind_some]
    obtain ⟨r, hr⟩ : ∃ r, r = ploop fi ls ts l.length l [] [] := ⟨_, rfl⟩
    rw [← hr] at hlen g1 g2 ⊢
    by_cases h0 : r.2.2.2.2 = 0
    · refine Ev.congr (fun k => if_pos h0) ?_
      obtain ⟨J, hJ⟩ : ∃ J, J = (flatO ts r.1 ++ [mkB [45, 45]]) ++ r.2.1 := ⟨_, rfl⟩
      have hj : getopt_Join.f a0 r.1 r.2.1 = some (J, 0) := by
        unfold getopt_Join.f
        rw [if_pos ⟨by omega, ha⟩, hs]
        simp only
        rw [jloop_good r.1 [] g1, hJ]
        rfl
      have hfw := flat_wt r.1 g1
      have hfl := flat_len r.1 g1
      rw [owt_nil] at g2
      have hwnil : weight [] = 0 := rfl
      rw [hwnil] at g2
      have hJw : weight J ≤ 1099511627776 := by
        rw [hJ, wt_add, wt_add, wt_one, mkB_size]
        simp only [List.length_cons, List.length_nil]
        omega
      have hlet : ∀ b ∈ ls, isLet b = true := by
        obtain ⟨_, hsc⟩ := spec_parts hs
        exact scan_letters _ _ _ _ (by simp) hsc
      have hq : getopt_Parse.f a0 J = some (r.1, r.2.1, mkB [], false, 0) := by
        unfold getopt_Parse.f
        rw [if_pos ⟨hJw, ha⟩, hs]
        simp only
        have := back_loop fi hlet r.1 J.length [] r.2.1 g1 (by rw [hJ, List.length_append, List.length_append, List.length_singleton]; omega)
        rw [List.nil_append] at this
        rw [← this, hJ, List.append_assoc]
        rfl
      simp only [hj, Option.bind_some, hq]
      refine Ev.congr (fun k => if_pos trivial) ?_
      refine Ev.congr (fun k => if_pos trivial) ?_
      refine Ev.bind (same_same r.1 (by omega)) ?_
      refine Ev.congr (fun k => if_pos rfl) ?_
      refine Ev.bind (texts_same r.2.1 (by omega)) ?_
      refine Ev.congr (fun k => if_pos rfl) ?_
      exact Ev.bind lives_true (Ev.now _)
    · refine Ev.congr (fun k => if_neg h0) ?_
      exact Ev.bind lives_true (Ev.now _)

end Go.Proofs.Ytcmicndmaaaknaa.G


/- For rows with a condition: the world's shape handed to the contract; the cell that strings.Contains reads holds a number. -/
namespace Go.Proofs.Ytcmicndmaaaknaa
open Go Go.RowKit

section
variable {H : Type} {enc : TypeId × Value → H}

theorem handed_cond_shaped {a : Assume} {C : Checked} {os : Os} {f : FuncId} {fn : Func} {s : OpenSpec} {k : (H : Type) → List (DataW H) → Bool} (hk : s.cond = some k) {F : Stop.Interp} {conds : List PathCond} {apart fresh handsOn again : Bool}
    (own : ownKnob C.prog.godebug = none) (started : os.Started) (noInit : C.prog.inits.idxOf? f = none) (hfn : C.prog.funcs[f]? = some fn)
    (witness : ∃ (w : World) (tape : Tape) (i : Input), w.os = os ∧ (w.forCall tape i).Shaped C.prog ∧ i.vars = [] ∧ Input.okWide C.prog (w.forCall tape i) .any w.heap.size f i ∧
      s.pre6 enc C.prog fn conds apart (w.forCall tape i).memory i.args ∧ a.holds C.prog (lone (Frame.enter C.prog f i.args .normal) [] (w.forCall tape i)))
    (contract : ∀ (W : World) (base : Nat) (args : Array Value) (ds gs : List (DataW H)) (before : List MemPlace),
      (∀ (j : Nat) t v, fn.params[j]? = some t → args[j]? = some v → Value.okWide C.prog W .any base t v) →
      DataW.Whole enc C.prog fn.params.toList s.vars apart W args.toList ds gs before →
      conds.all (PathCond.test C.prog ⟨fn.params.toList, ds, s.bare.plain.varTypes C.prog, gs⟩) = true → k H (ds ++ gs) = true →
      W.ShapedOpen C.prog →
      a.holds C.prog (lone (Frame.enter C.prog f args .normal) [] W) →
      Calls C.prog f args W fun e W' => ∃ v, e = .returned v ∧ (s.at F).post enc C.prog fn apart fresh handsOn again W args v W') :
    ReturnsInHanded a C os f .any (s.pre6 enc C.prog fn conds apart) ((s.at F).post enc C.prog fn apart fresh handsOn again) := by
  refine returnsInHanded_of_calls own started noInit witness ?_
  intro w tape i _ hsh _ hok hpre hholds
  obtain ⟨_, _, _, fn', hfn', _, _, _, _, hval⟩ := hok
  have e : fn' = fn := Option.some.inj (hfn'.symm.trans hfn)
  subst e
  obtain ⟨ds, gs, before, hw, hc, hkk⟩ := (OpenSpec.pre_some hk conds apart _ _).1 hpre.1
  have hw' := DataW.Whole.of_heap (w' := w.forCall tape i) (by rfl) hw
  refine (contract (w.forCall tape i) w.heap.size i.args ds gs before hval hw' hc hkk hsh hholds).mono fun e W' ⟨v, he, hp⟩ => ?_
  subst he
  exact ChangeSpec.post_blind hp
end

theorem maxOk_of_shaped {w : World} (h : w.ShapedOpen Try.prog) : G.MaxOk w :=
  ⟨Go.Proofs.cell_of_shapedOpen_int (zero := #[.int .i64 0]) (t := 3) h (of_decide_eq_true (by kernel_rfl)) (by kernel_rfl) rfl (by kernel_rfl) (by kernel_rfl) Try.underlying3⟩
end Go.Proofs.Ytcmicndmaaaknaa

