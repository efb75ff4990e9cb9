/- Plain laws without Go: the reference's Parse comes to what getopt.Parse comes to; the law GetoptParses, plain. -/
import Derived.Test.YtcmicndmaaaknaaPSpec
import Derived.Test.YtcmicndmaaaknaaPAsks
import Derived.Test.YtcmicndmaaaknaaG11
namespace Go.Proofs.Ytcmicndmaaaknaa.G
open Go.RowKit Go.Proofs.YtcmicndmaaaknaaW.PrintWords
set_option linter.unusedVariables false
set_option linter.unusedSimpArgs false

theorem wt_cons (x : ByteArray) (xs : List ByteArray) : weight (x :: xs) = x.size + 1 + weight xs := by simp [weight]
theorem len_wt (xs : List ByteArray) : xs.length ≤ weight xs := by
  induction xs with
  | nil => exact Nat.zero_le _
  | cons x xs ih => rw [wt_cons, List.length_cons]; omega
theorem drop_wt (l : List ByteArray) (i : Nat) (h : i < l.length) : weight (l.drop i) = (l[i]'h).size + 1 + weight (l.drop (i + 1)) := by
  rw [List.drop_eq_getElem_cons h, wt_cons]
theorem drop_wt_le (l : List ByteArray) : ∀ i, weight (l.drop i) ≤ weight l := by
  intro i
  induction l generalizing i with
  | nil => simp
  | cons x l ih =>
    cases i with
    | zero => exact Nat.le_refl _
    | succ i => have := ih i; rw [List.drop_succ_cons, wt_cons]; omega
theorem rdOf_get (l : List ByteArray) (i : Nat) (h : i < l.length) : rdOf ByteArray.empty l (i : Int) = l[i]'h := by
  unfold rdOf
  rw [Int.toNat_natCast, List.getD_eq_getElem?_getD, List.getElem?_eq_getElem h]
  rfl
theorem one_of (b : UInt8) : tinselref09_one.f (b.toNat : Int) = some (oneB b) := by
  unfold tinselref09_one.f strOfNums oneB mkB
  simp

section
variable (a0 : ByteArray) (l : List ByteArray) (fi : Bool) (ls ts : List UInt8)

/-- a cluster in the reference: from byte p on -/
theorem ref_cluster (hspec : specOf a0 = some (fi, ls, ts)) (ha : a0.size ≤ 140737488355328) (hw : weight l ≤ 1099511627776) (i : Nat) (hi : i < l.length) (f : Nat) (rs : List ByteArray)
    (ih : ∀ (j : Nat) (os : List S67), i < j → j ≤ l.length → os.length + weight (l.drop j) ≤ 1099511627776 → Ev (fun k => tinselref09_Parse.l0 k a0 l os rs j) (ploop fi ls ts f (l.drop j) os rs))
    (d : Nat) : ∀ (p : Nat) (os : List S67), p + d = (l[i]'hi).size → os.length + d + weight (l.drop (i + 1)) ≤ 1099511627776 →
    Ev (fun k => tinselref09_Parse.l1 k a0 l os rs i (l[i]'hi) p)
      (match clus ls ts ((l[i]'hi).data.toList.drop p) (l.drop (i + 1)) os with
        | .inl (n, m) => ([], [], n, m, 100)
        | .inr (os', args') => ploop fi ls ts f args' os' rs) := by
  have hll : l.length ≤ 1099511627776 := by have := len_wt l; omega
  have hxs : (l[i]'hi).size ≤ 1099511627776 := by
    have h1 := drop_wt l i hi
    have h2 := drop_wt_le l i
    omega
  obtain ⟨x, hx⟩ : ∃ x, x = l[i]'hi := ⟨_, rfl⟩
  rw [← hx] at hxs ⊢
  have hxl := data_length x
  induction d with
  | zero =>
    intro p os hp hc
    rw [List.drop_eq_nil_of_le (by omega)]
    simp only [clus]
    refine Ev.step (fun k => ?_) (ih (i + 1) os (by omega) (by omega) (by omega))
    simp only [tinselref09_Parse.l1]
    rw [if_neg (by omega), wr64 (by omega) (by omega)]
    rfl
  | succ d ihd =>
    intro p os hp hc
    have hpl : p < x.data.toList.length := by omega
    obtain ⟨b, hb⟩ : ∃ b, b = x.data.toList[p]'hpl := ⟨_, rfl⟩
    have hdrop : x.data.toList.drop p = b :: x.data.toList.drop (p + 1) := by rw [hb]; exact List.drop_eq_getElem_cons hpl
    have hbt : bt x p = (b.toNat : Int) := by
      rw [bt_data, List.getElem?_eq_getElem hpl, hb]; rfl
    rw [hdrop]
    unfold clus
    obtain ⟨w, hev, hwt⟩ := takes_pure hspec ha b
    have hrest : x.extract (p + 1) x.size = mkB (x.data.toList.drop (p + 1)) := by
      rw [← mkB_drop, mkB_toList]
    have hbody : Ev (fun k => tinselref09_Parse.l1 k a0 l os rs i x p) (if ls.contains b = false then ([], [], oneB b, false, 100) else if w = false then (match clus ls ts (x.data.toList.drop (p + 1)) (l.drop (i + 1)) (os ++ [⟨oneB b, mkB []⟩]) with
        | .inl (n, m) => ([], [], n, m, 100)
        | .inr (os', args') => ploop fi ls ts f args' os' rs)
        else if (x.data.toList.drop (p + 1)).isEmpty = false then ploop fi ls ts f (l.drop (i + 1)) (os ++ [⟨oneB b, mkB (x.data.toList.drop (p + 1))⟩]) rs
        else match l.drop (i + 1) with
          | [] => ([], [], oneB b, true, 100)
          | y :: args' => ploop fi ls ts f args' (os ++ [⟨oneB b, y⟩]) rs) := by
      obtain ⟨F, hF, hr⟩ : ∃ F : Nat → Bool × Bool → Option (List S67 × List ByteArray × ByteArray × Bool × Int), (∀ k, tinselref09_Parse.l1 (k + 1) a0 l os rs i x p = (tinselref09_takes.f k a0 (b.toNat : Int)).bind (F k)) ∧ Ev (fun k => F k (ls.contains b, w)) (if ls.contains b = false then ([], [], oneB b, false, 100) else if w = false then (match clus ls ts (x.data.toList.drop (p + 1)) (l.drop (i + 1)) (os ++ [⟨oneB b, mkB []⟩]) with
          | .inl (n, m) => ([], [], n, m, 100)
          | .inr (os', args') => ploop fi ls ts f args' os' rs)
          else if (x.data.toList.drop (p + 1)).isEmpty = false then ploop fi ls ts f (l.drop (i + 1)) (os ++ [⟨oneB b, mkB (x.data.toList.drop (p + 1))⟩]) rs
          else match l.drop (i + 1) with
            | [] => ([], [], oneB b, true, 100)
            | y :: args' => ploop fi ls ts f args' (os ++ [⟨oneB b, y⟩]) rs) := by
        refine ⟨?F, fun k => ?e, ?r⟩
        case e =>
          simp only [tinselref09_Parse.l1]
          rw [if_pos (by omega), if_pos (by omega), hbt, wr64 (i := (p : Int) + 1) (by omega) (by omega), wr64 (i := (i : Int) + 1) (by omega) (by omega)]
        by_cases h1 : ls.contains b = false
        · rw [if_pos h1]
          simp only [h1, Bool.false_eq_true, if_false, one_of, Option.bind_some]
          exact Ev.now _
        · rw [if_neg h1]
          have h1' : ls.contains b = true := by simpa using h1
          simp only [h1', if_true, one_of, Option.bind_some]
          by_cases h2 : w = false
          · rw [if_pos h2]
            simp only [h2, Bool.false_eq_true, if_false]
            refine Ev.congr (fun k => ?_) (ihd (p + 1) (os ++ [⟨oneB b, mkB []⟩]) (by omega) (by rw [List.length_append, List.length_singleton]; omega))
            rw [if_pos (by omega)]
            rfl
          · rw [if_neg h2]
            have h2' : w = true := by simpa using h2
            simp only [h2', if_true]
            have hdl : (x.data.toList.drop (p + 1)).length + (p + 1) = x.size := by rw [List.length_drop]; omega
            by_cases h3 : (x.data.toList.drop (p + 1)).isEmpty = false
            · rw [if_pos h3]
              have h3' : p + 1 < x.size := by
                cases hd : x.data.toList.drop (p + 1) with
                | nil => rw [hd] at h3; cases h3
                | cons c t => rw [hd] at hdl; simp at hdl; omega
              refine Ev.congr (fun k => ?_) (ih (i + 1) (os ++ [⟨oneB b, mkB (x.data.toList.drop (p + 1))⟩]) (by omega) (by omega) (by rw [List.length_append, List.length_singleton]; omega))
              rw [if_pos (by omega), if_pos (by omega), if_pos (by omega), if_pos (by omega), show ((p : Int) + 1).toNat = p + 1 from by omega, hrest]
              rfl
            · rw [if_neg h3]
              have h3' : ¬ p + 1 < x.size := by
                intro hlt
                have he : (x.data.toList.drop (p + 1)).isEmpty = true := by simpa using h3
                rw [List.isEmpty_iff] at he
                rw [he] at hdl
                simp at hdl
                omega
              by_cases h4 : i + 1 = l.length
              · rw [List.drop_eq_nil_of_le (by omega)]
                refine Ev.congr (fun k => ?_) (Ev.now _)
                rw [if_neg (by omega), if_pos (by omega)]
              · have hi1 : i + 1 < l.length := by omega
                rw [List.drop_eq_getElem_cons hi1]
                have hwd := drop_wt l (i + 1) hi1
                refine Ev.congr (fun k => ?_) (ih (i + 1 + 1) (os ++ [⟨oneB b, l[i + 1]'hi1⟩]) (by omega) (by omega) (by rw [List.length_append, List.length_singleton]; omega))
                rw [if_neg (by omega), if_neg (by omega), if_pos (by omega), if_pos (by omega), if_pos (by omega), wr64 (by omega) (by omega), show ((i : Int) + 1) = ((i + 1 : Nat) : Int) from by omega, rdOf_get l (i + 1) hi1]
                rfl
      exact Ev.step hF (Ev.bind hev hr)
    by_cases h1 : ls.contains b = false
    · rw [if_pos h1] at hbody ⊢
      exact hbody
    · rw [if_neg h1] at hbody ⊢
      have h1' : ls.contains b = true := by simpa using h1
      rw [hwt h1'] at hbody
      by_cases h2 : ts.contains b = false
      · rw [if_pos h2] at hbody ⊢
        exact hbody
      · rw [if_neg h2] at hbody ⊢
        by_cases h3 : (x.data.toList.drop (p + 1)).isEmpty = false
        · rw [if_pos h3] at hbody ⊢
          exact hbody
        · rw [if_neg h3] at hbody ⊢
          cases hd : l.drop (i + 1) with
          | nil => rw [hd] at hbody; exact hbody
          | cons y t => rw [hd] at hbody; exact hbody

theorem ref_loop (hspec : specOf a0 = some (fi, ls, ts)) (ha : a0.size ≤ 140737488355328) (hw : weight l ≤ 1099511627776) (f : Nat) : ∀ (i : Nat) (os : List S67) (rs : List ByteArray), i ≤ l.length → l.length ≤ i + f →
    os.length + weight (l.drop i) ≤ 1099511627776 → rs.length + weight (l.drop i) ≤ 1099511627776 →
    Ev (fun k => tinselref09_Parse.l0 k a0 l os rs i) (ploop fi ls ts f (l.drop i) os rs) := by
  have hll : l.length ≤ 1099511627776 := by have := len_wt l; omega
  have hend : ∀ (i : Nat) (f : Nat) (os : List S67) (rs : List ByteArray), i = l.length → Ev (fun k => tinselref09_Parse.l0 k a0 l os rs i) (ploop fi ls ts f (l.drop i) os rs) := by
    intro i f os rs hi
    rw [List.drop_eq_nil_of_le (by omega)]
    have e : ploop fi ls ts f [] os rs = (os, rs, (⟨#[]⟩ : ByteArray), false, 0) := by cases f <;> rfl
    rw [e]
    refine Ev.step (f := fun _ => some (os, rs, (⟨#[]⟩ : ByteArray), false, 0)) (fun k => ?_) (Ev.now _)
    simp only [tinselref09_Parse.l0]
    rw [if_neg (by omega)]
  induction f with
  | zero => intro i os rs hi hf _ _; exact hend i 0 os rs (by omega)
  | succ f ih =>
    intro i os rs hi hf hc1 hc2
    by_cases hil : i = l.length
    · exact hend i (f + 1) os rs hil
    · have hlt : i < l.length := by omega
      have hwd := drop_wt l i hlt
      have hget := rdOf_get l i hlt
      have hlen := len_wt (l.drop (i + 1))
      have hdl : (l.drop (i + 1)).length = l.length - (i + 1) := List.length_drop
      rw [List.drop_eq_getElem_cons hlt]
      obtain ⟨x, hx⟩ : ∃ x, x = l[i]'hlt := ⟨_, rfl⟩
      rw [← hx] at hget hwd ⊢
      unfold ploop
      have hfi := (spec_parts hspec).1
      by_cases hda : dashes x = true
      · rw [if_pos hda]
        have hdt : x.toList = [45, 45] := by rw [ByteArray.toList_eq]; simpa [dashes] using hda
        refine Ev.step (f := fun _ => some (os, rs ++ l.drop (i + 1), (⟨#[]⟩ : ByteArray), false, 0)) (fun k => ?_) (Ev.now _)
        simp only [tinselref09_Parse.l0]
        rw [if_pos (by omega), if_pos (by omega), hget, if_pos hdt, wr64 (by omega) (by omega), if_pos (by omega), if_pos (by omega), show ((i : Int) + 1).toNat = i + 1 from by omega, if_pos (by omega)]
      · rw [if_neg hda]
        have hdt : ¬ x.toList = [45, 45] := by rw [ByteArray.toList_eq]; simpa [dashes] using hda
        by_cases hcl : isClus x = true
        · rw [if_pos hcl]
          obtain ⟨hx1, hb45⟩ := isClus_true hcl
          have hb : (bt x 0 != 45) = false := by rw [bne_eq_false_iff_eq]; exact beq_iff_eq.1 hb45
          have hcluster := ref_cluster a0 l fi ls ts hspec ha hw i hlt f rs (fun j os' hj hjl hcj => ih j os' rs hjl (by omega) hcj (by
            have hm : weight (l.drop j) ≤ weight (l.drop (i + 1)) := by
              have := drop_wt_le (l.drop (i + 1)) (j - (i + 1))
              rw [List.drop_drop, show i + 1 + (j - (i + 1)) = j from by omega] at this
              exact this
            omega)) (x.size - 1) 1 os (by rw [← hx]; omega) (by omega)
          rw [← hx] at hcluster
          refine Ev.step (f := fun k => tinselref09_Parse.j1 k a0 l os rs i x false) (fun k => ?_) (Ev.step (fun k => ?_) hcluster)
          · simp only [tinselref09_Parse.l0]
            rw [if_pos (by omega), if_pos (by omega), hget, if_neg hdt, if_neg (by omega), if_pos (by omega), hb]
          · simp only [tinselref09_Parse.j1]
            rfl
        · rw [if_neg hcl]
          have hcl2 : isClus x = false := by simpa using hcl
          have hj : ∀ k, tinselref09_Parse.l0 (k + 1) a0 l os rs i = tinselref09_Parse.j1 k a0 l os rs i x true := fun k => by
            simp only [tinselref09_Parse.l0]
            rw [if_pos (by omega), if_pos (by omega), hget, if_neg hdt]
            rcases isClus_false hcl2 with h | ⟨h, hb⟩
            · rw [if_pos (by omega)]
            · have hb2 : (bt x 0 != 45) = true := by rw [bne_iff_ne]; simpa using hb
              rw [if_neg (by omega), if_pos (by omega), hb2]
          have hnext : Ev (fun k => tinselref09_Parse.l0 k a0 l os (rs ++ [x]) ((i + 1 : Nat) : Int)) (ploop fi ls ts f (l.drop (i + 1)) os (rs ++ [x])) :=
            ih (i + 1) os (rs ++ [x]) (by omega) (by omega) (by omega) (by rw [List.length_append, List.length_singleton]; omega)
          have ha0 := data_length a0
          have hb0 := bt_data a0 0
          have e0 : ((0 : Nat) : Int) = 0 := rfl
          rw [e0] at hb0
          cases hd : a0.data.toList with
          | nil =>
            rw [hd] at ha0 hfi
            have hff : fi = false := by rw [hfi]; rfl
            rw [hff] at hnext ⊢
            rw [if_neg (by decide)]
            refine Ev.step hj (Ev.step (fun k => ?_) hnext)
            simp only [tinselref09_Parse.j1, if_true]
            rw [if_neg (by simp at ha0; omega), if_pos (by omega), wr64 (by omega) (by omega)]
            rfl
          | cons c t =>
            rw [hd] at ha0 hfi hb0
            simp at hb0
            have hp : a0.size > 0 := by simp at ha0; omega
            cases hff : fi with
            | true =>
              rw [if_pos rfl]
              rw [hff] at hfi
              have h43 : (c.toNat : Int) = 43 := by
                have : (c.toNat == 43) = true := hfi.symm
                have := beq_iff_eq.1 this
                omega
              refine Ev.step hj (Ev.step (f := fun _ => some (os, rs ++ l.drop i, (⟨#[]⟩ : ByteArray), false, 0)) (fun k => ?_) ?_)
              · simp only [tinselref09_Parse.j1, if_true]
                rw [if_pos (by omega), if_pos (by omega), hb0, if_pos h43, if_pos (by omega), if_pos (by omega), show (i : Int).toNat = i from by omega, if_pos (by rw [List.length_drop]; omega)]
              · have e : rs ++ l.drop i = (rs ++ [x]) ++ l.drop (i + 1) := by rw [List.drop_eq_getElem_cons hlt, ← hx]; simp
                rw [e]
                exact Ev.now _
            | false =>
              rw [if_neg (by decide)]
              rw [hff] at hfi hnext
              have h43 : ¬ (c.toNat : Int) = 43 := by
                have : (c.toNat == 43) = false := hfi.symm
                have := beq_eq_false_iff_ne.1 this
                omega
              refine Ev.step hj (Ev.step (fun k => ?_) hnext)
              simp only [tinselref09_Parse.j1, if_true]
              rw [if_pos (by omega), if_pos (by omega), hb0, if_neg h43, if_pos (by omega), wr64 (by omega) (by omega)]
              rfl
end

theorem ref_parse (a0 : ByteArray) (l : List ByteArray) (r : List S67 × List ByteArray × ByteArray × Bool × Int) (h : getopt_Parse.f a0 l = some r) : Ev (fun k => tinselref09_Parse.f k a0 l) r := by
  unfold getopt_Parse.f at h
  by_cases hw : weight l ≤ 1099511627776 ∧ a0.size ≤ 140737488355328
  · rw [if_pos hw] at h
    have hsp := spec_pure a0 hw.2
    unfold tinselref09_Parse.f
    refine Ev.bind hsp ?_
    cases hs : specOf a0 with
    | none =>
      rw [hs] at h
      injection h with h
      subst h
      exact Ev.now _
    | some p =>
      obtain ⟨fi, ls, ts⟩ := p
      rw [hs] at h
      injection h with h
      subst h
      have := ref_loop a0 l fi ls ts hs hw.2 hw.1 l.length 0 [] [] (by omega) (by omega) (by simpa using hw.1) (by simpa using hw.1)
      exact this
  · rw [if_neg hw] at h; cases h

theorem same_loop (l : List S67) (hl : l.length ≤ 9223372036854775807) (d : Nat) : ∀ i : Int, 0 ≤ i → i + d = l.length → Ev (fun k => tinselref09_Same.l0 k l l (l.length : Int) i) true := by
  induction d with
  | zero =>
    intro i h0 hd
    refine Ev.step (f := fun _ => some true) (fun k => ?_) (Ev.now _)
    simp only [tinselref09_Same.l0]
    rw [if_neg (by omega)]
  | succ d ih =>
    intro i h0 hd
    refine Ev.step (fun k => ?_) (ih (i + 1) (by omega) (by omega))
    simp only [tinselref09_Same.l0]
    rw [if_pos (by omega), if_pos h0, if_pos (by omega), if_pos (by omega), if_neg (by simp), w64 (by omega) (by omega)]
theorem same_same (l : List S67) (hl : l.length ≤ 9223372036854775807) : Ev (fun k => tinselref09_Same.f k l l) true := by
  refine Ev.congr (f := fun k => tinselref09_Same.l0 k l l (l.length : Int) 0) (fun k => ?_) (same_loop l hl l.length 0 (by omega) (by omega))
  unfold tinselref09_Same.f
  rw [if_pos rfl]

theorem clus_len {ls ts : List UInt8} : ∀ (a : List UInt8) (args : List ByteArray) (os : List S67) {os' : List S67} {args' : List ByteArray}, clus ls ts a args os = .inr (os', args') →
    os'.length + weight args' ≤ os.length + a.length + weight args ∧ args'.length ≤ args.length := by
  intro a args os os' args' h
  have := weight_part a args os h
  omega
theorem ploop_len (fi : Bool) (ls ts : List UInt8) (f : Nat) : ∀ (args : List ByteArray) (os : List S67) (rs : List ByteArray), (ploop fi ls ts f args os rs).1.length ≤ os.length + weight args ∧ (ploop fi ls ts f args os rs).2.1.length ≤ rs.length + args.length := by
  induction f with
  | zero => intro args os rs; exact ⟨Nat.le_add_right _ _, Nat.le_add_right _ _⟩
  | succ f ih =>
    intro args os rs
    cases args with
    | nil => exact ⟨Nat.le_add_right _ _, Nat.le_add_right _ _⟩
    | cons x xs =>
      unfold ploop
      by_cases hd : dashes x = true
      · rw [if_pos hd]
        exact ⟨Nat.le_add_right _ _, by simp only [List.length_append, List.length_cons]; omega⟩
      · rw [if_neg hd]
        by_cases hc : isClus x = true
        · rw [if_pos hc]
          cases hq : clus ls ts (x.data.toList.drop 1) xs os with
          | inl p => exact ⟨Nat.zero_le _, Nat.zero_le _⟩
          | inr p =>
            obtain ⟨os', args'⟩ := p
            have h1 := clus_len _ _ _ hq
            have h2 := ih args' os' rs
            have h3 := data_length x
            rw [List.length_drop] at h1
            rw [wt_cons, List.length_cons]
            simp only
            omega
        · rw [if_neg hc]
          cases fi with
          | true =>
            rw [if_pos rfl]
            exact ⟨Nat.le_add_right _ _, by simp only [List.length_append, List.length_cons, List.length_nil]; omega⟩
          | false =>
            rw [if_neg (by decide)]
            have h2 := ih xs os (rs ++ [x])
            rw [wt_cons, List.length_cons]
            simp only [List.length_append, List.length_cons, List.length_nil] at h2
            omega
theorem parse_len {a0 : ByteArray} {l : List ByteArray} {r : List S67 × List ByteArray × ByteArray × Bool × Int} (h : getopt_Parse.f a0 l = some r) : r.1.length ≤ weight l ∧ r.2.1.length ≤ l.length := by
  unfold getopt_Parse.f at h
  by_cases hw : weight l ≤ 1099511627776 ∧ a0.size ≤ 140737488355328
  · rw [if_pos hw] at h
    cases hs : specOf a0 with
    | none =>
      rw [hs] at h
      injection h with h
      subst h
      exact ⟨Nat.zero_le _, Nat.zero_le _⟩
    | some p =>
      obtain ⟨fi, ls, ts⟩ := p
      rw [hs] at h
      injection h with h
      subst h
      have := ploop_len fi ls ts l.length l [] []
      simpa using this
  · rw [if_neg hw] at h; cases h
theorem parse_some {a0 : ByteArray} {l : List ByteArray} (hw : weight l ≤ 1099511627776) (ha : a0.size ≤ 140737488355328) : ∃ r, getopt_Parse.f a0 l = some r := by
  unfold getopt_Parse.f
  rw [if_pos ⟨hw, ha⟩]
  cases hs : specOf a0 with
  | none => exact ⟨_, rfl⟩
  | some p => obtain ⟨fi, ls, ts⟩ := p; exact ⟨_, rfl⟩

theorem set_loop (a0 : ByteArray) (l y : List ByteArray) (r : List S67 × List ByteArray × ByteArray × Bool × Int) (h : getopt_Parse.f a0 l = some r) (hr : r.2.1.length ≤ 9223372036854775807) (n : Nat) (hn : n ≤ 9223372036854775807) (d : Nat) :
    ∀ (i : Int) (x : List ByteArray), x.length = n → 0 ≤ i → i + d = n → Ev (fun k => tinsellaw09_GetoptParses.l0 k a0 l x r.2.1 (n : Int) i) true := by
  induction d with
  | zero =>
    intro i x hx h0 hd
    refine Ev.step (f := fun k => (tinselref01_Texts.f k r.2.1 r.2.1).bind fun t => if t = true then ((tinsellaw09_lives.f k).bind fun t => some t) else some false) (fun k => ?_) (Ev.bind (texts_same _ hr) ?_)
    · simp only [tinsellaw09_GetoptParses.l0]
      rw [if_neg (by omega), h]
      rfl
    · simp only [if_true]
      exact Ev.bind lives_true (Ev.now _)
  | succ d ih =>
    intro i x hx h0 hd
    refine Ev.step (fun k => ?_) (ih (i + 1) (x.set i.toNat (⟨#[63]⟩ : ByteArray)) (by rw [List.length_set]; exact hx) (by omega) (by omega))
    simp only [tinsellaw09_GetoptParses.l0]
    rw [if_pos (by omega), if_pos h0, if_pos (by omega), w64 (by omega) (by omega)]

/-- THE LAW, PLAIN. -/
theorem parses_pure (a0 : ByteArray) (l : List ByteArray) (hw : weight l ≤ 1099511627776) (ha : a0.size ≤ 140737488355328) : Ev (fun k => tinsellaw09_GetoptParses.f k a0 l) true := by
  obtain ⟨r, hr⟩ := parse_some hw ha
  have hlen := parse_len hr
  have hll := len_wt l
  have href := ref_parse a0 l r hr
  unfold tinsellaw09_GetoptParses.f
  simp only [Option.bind_some, List.nil_append, List.length_nil]
  refine Ev.congr (fun k => if_pos (by omega)) ?_
  simp only [hr, Option.bind_some]
  refine Ev.bind href ?_
  refine Ev.congr (fun k => if_pos rfl) ?_
  refine Ev.congr (fun k => if_neg (by simp)) ?_
  refine Ev.bind (same_same r.1 (by omega)) ?_
  refine Ev.congr (fun k => if_pos rfl) ?_
  refine Ev.bind (texts_same r.2.1 (by omega)) ?_
  refine Ev.congr (fun k => if_pos rfl) ?_
  refine Ev.bind (texts_same l (by omega)) ?_
  refine Ev.step (fun k => ?_) (set_loop a0 l l r hr (by omega) r.2.1.length (by omega) r.2.1.length 0 r.2.1 rfl (by omega) (by omega))
  simp only [tinsellaw09_GetoptParses.j0]
  rfl

end Go.Proofs.Ytcmicndmaaaknaa.G
