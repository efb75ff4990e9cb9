/- Texts on getopt.Parse, together. -/
import Derived.Test.YtfchidckklhmpaaGreatDoorG0
import Derived.Lib.OthersKept
import Derived.Lib.Hide
/- The plain functions that package getopt's own functions come to: a spec's scan, a cluster, the loop over the arguments, Join and Usage; over lists of bytes. No walk in it. -/
namespace Go.Proofs.YtfchidckklhmpaaGreatDoor.G
open Go.RowKit Go.Proofs.YtfchidckklhmpaaGreatDoorW.PrintWords

def mkB (l : List UInt8) : ByteArray := ⟨l.toArray⟩
def oneB (b : UInt8) : ByteArray := mkB [b]

/-- may a byte be an option's letter? -/
def isLet (b : UInt8) : Bool := (decide (97 ≤ b.toNat) && decide (b.toNat ≤ 122)) || ((decide (65 ≤ b.toNat) && decide (b.toNat ≤ 90)) || (decide (48 ≤ b.toNat) && decide (b.toNat ≤ 57)))

/-- the spec's bytes, behind the plus: letters, those that take an argument -/
def scan : List UInt8 → List UInt8 → List UInt8 → Bool → Option (List UInt8 × List UInt8)
  | [], ls, ts, _ => some (ls, ts)
  | b :: r, ls, ts, last =>
    if b.toNat = 58 ∧ last = true then scan r ls (ts ++ ls.drop (ls.length - 1)) false
    else if isLet b = true ∧ ls.contains b = false then scan r (ls ++ [b]) ts true else none

def plus (s : List UInt8) : Bool := match s with | b :: _ => b.toNat == 43 | [] => false
def strip (s : List UInt8) : List UInt8 := if plus s then s.drop 1 else s

/-- what getopt.parse comes to -/
def specOf (s : ByteArray) : Option (Bool × List UInt8 × List UInt8) := (scan (strip s.data.toList) [] [] false).map fun p => (plus s.data.toList, p.1, p.2)

/-- a cluster's bytes: what may not be, or the options and the arguments that are left -/
def clus (ls ts : List UInt8) : List UInt8 → List ByteArray → List S67 → (ByteArray × Bool) ⊕ (List S67 × List ByteArray)
  | [], args, os => .inr (os, args)
  | b :: r, args, os =>
    if ls.contains b = false then .inl (oneB b, false)
    else if ts.contains b = false then clus ls ts r args (os ++ [⟨oneB b, mkB []⟩])
    else if r.isEmpty = false then .inr (os ++ [⟨oneB b, mkB r⟩], args)
    else match args with
      | [] => .inl (oneB b, true)
      | x :: args' => .inr (os ++ [⟨oneB b, x⟩], args')

def dashes (a : ByteArray) : Bool := a.data.toList == [45, 45]
def isClus (a : ByteArray) : Bool := decide (1 < a.size) && (match a.data.toList with | b :: _ => b.toNat == 45 | [] => false)

/-- the loop over the arguments -/
def ploop (fi : Bool) (ls ts : List UInt8) : Nat → List ByteArray → List S67 → List ByteArray → List S67 × List ByteArray × ByteArray × Bool × Int
  | 0, _, os, rs => (os, rs, mkB [], false, 0)
  | _ + 1, [], os, rs => (os, rs, mkB [], false, 0)
  | k + 1, a :: args, os, rs =>
    if dashes a = true then (os, rs ++ args, mkB [], false, 0)
    else if isClus a = true then
      match clus ls ts (a.data.toList.drop 1) args os with
      | .inl (n, m) => ([], [], n, m, 100)
      | .inr (os', args') => ploop fi ls ts k args' os' rs
    else if fi = true then (os, (rs ++ [a]) ++ args, mkB [], false, 0)
    else ploop fi ls ts k args os (rs ++ [a])

def weight (l : List ByteArray) : Nat := (l.map (fun a => a.size + 1)).sum

def getopt_Parse.f (a0 : ByteArray) (l1 : List ByteArray) : Option (List S67 × List ByteArray × ByteArray × Bool × Int) :=
  if weight l1 ≤ 1099511627776 ∧ a0.size ≤ 140737488355328 then
    match specOf a0 with
    | none => some ([], [], mkB [], false, 22)
    | some (fi, ls, ts) => some (ploop fi ls ts l1.length l1 [] [])
  else none

/-- strings.Contains at a text of one byte -/
def strings_Contains.f (a0 a1 : ByteArray) : Option Bool :=
  match a1.data.toList with
  | [b] => some (a0.data.toList.contains b)
  | _ => none

/-- Join's loop -/
def jloop (ls ts : List UInt8) : List S67 → List ByteArray → Option (List ByteArray)
  | [], out => some out
  | o :: r, out =>
    match o.f0.data.toList with
    | [b] =>
      if ls.contains b = false then none
      else if ts.contains b = false then (if o.f1.size = 0 then jloop ls ts r (out ++ [mkB [45, b]]) else none)
      else jloop ls ts r (out ++ [mkB [45, b]] ++ [o.f1])
    | _ => none

def getopt_Join.f (a0 : ByteArray) (l1 : List S67) (l2 : List ByteArray) : Option (List ByteArray × Int) :=
  if l1.length + l2.length ≤ 1099511627776 ∧ a0.size ≤ 140737488355328 then
    match specOf a0 with
    | none => some ([], 22)
    | some (_, ls, ts) =>
      match jloop ls ts l1 [] with
      | none => some ([], 22)
      | some out => some ((out ++ [mkB [45, 45]]) ++ l2, 0)
  else none

/-- Usage: the plain letters, and the texts of those with an argument -/
def uparts (ts : List UInt8) : List UInt8 → List UInt8 → List (List UInt8) → List UInt8 × List (List UInt8)
  | [], p, l => (p, l)
  | b :: r, p, l => if ts.contains b = true then uparts ts r p (l ++ [[91, 45, b, 32, 97, 114, 103, 93]]) else uparts ts r (p ++ [b]) l

def joinSp : List (List UInt8) → List UInt8
  | [] => []
  | [x] => x
  | x :: y :: r => x ++ 32 :: joinSp (y :: r)

def usageText (ls ts : List UInt8) : List (List UInt8) :=
  if (uparts ts ls [] []).1.isEmpty then (uparts ts ls [] []).2 else ([91, 45] ++ (uparts ts ls [] []).1 ++ [93]) :: (uparts ts ls [] []).2

def getopt_Usage.f (a0 : ByteArray) : Option (ByteArray × Int) :=
  if a0.size ≤ 140737488355328 then
    match specOf a0 with
    | none => some (mkB [], 22)
    | some (_, ls, ts) => some (mkB (joinSp (usageText ls ts)), 0)
  else none

end Go.Proofs.YtfchidckklhmpaaGreatDoor.G

-- Made by a program of this session out of the translation; Lean checks it.
namespace Go.Proofs.YtfchidckklhmpaaGreatDoor.G
open Go.RowKit Go.Proofs.YtfchidckklhmpaaGreatDoorW.PrintWords Go.Proofs.YtfchidckklhmpaaGreatDoorW.PrintLast Go.Proofs.YtfchidckklhmpaaGreatDoorW.PrintMore
attribute [local go_sem] max2_int min2_int max_two min_two max_three min_three max_four min_four   -- for this text's walks alone
set_option linter.unusedVariables false
set_option linter.unusedSimpArgs false

-- NOT PRINTED: function 33 (getopt_hasRune)

/-! ### stringslite_HasPrefix: function 43 -/
def stringslite_HasPrefix.f (a0 : ByteArray) (a1 : ByteArray) : Option (Bool) := if (a0.size : Int) ≥ (a1.size : Int) then (if 0 ≤ (a1.size : Int) then (if (a1.size : Int) ≤ (a0.size : Int) then (some ((a0.extract 0 ((a1.size : Int) : Int).toNat).toList == a1.toList)) else (none)) else (none)) else (some false)
set_option maxHeartbeats 8000000 in
set_option maxRecDepth 100000 in
theorem stringslite_HasPrefix.calls (a0 : ByteArray) (a1 : ByteArray) (r : Bool) (w : World) (h : stringslite_HasPrefix.f a0 a1 = some r) :
    Calls Tryz.prog 305 #[.string a0, .string a1] w fun e w' => e = .returned (.bool r) ∧ Drawn0 w w' := by
  have H : (if (a0.size : Int) ≥ (a1.size : Int) then (if 0 ≤ (a1.size : Int) then (if (a1.size : Int) ≤ (a0.size : Int) then (some ((a0.extract 0 ((a1.size : Int) : Int).toNat).toList == a1.toList)) else (none)) else (none)) else (some false)) = some r := h
  clear h
  by_cases c3 : (a0.size : Int) ≥ (a1.size : Int)
  · rw [if_pos c3] at H
    have c3b0 : decide ((a1.size : Int) ≤ (a0.size : Int)) = true := decide_eq_true c3
    have c3b1 : decide (a1.size ≤ a0.size) = true := decide_eq_true (Int.ofNat_le.mp c3)
    clear c3
    by_cases c4 : 0 ≤ (a1.size : Int)
    · rw [if_pos c4] at H
      have c4b0 := eq_true c4
      have c4b1 : decide (0 ≤ (a1.size : Int)) = true := decide_eq_true c4
      clear c4
      by_cases c5 : (a1.size : Int) ≤ (a0.size : Int)
      · rw [if_pos c5] at H
        have c5b0 := eq_true c5
        have c5b1 : decide ((a1.size : Int) ≤ (a0.size : Int)) = true := decide_eq_true c5
        clear c5
        obtain rfl := Option.some.inj H
        go_enter Tryz.func305, Tryz.ntmps305
        go_wp2
        go_ret
        exact ⟨by first | rfl | (simp; done) | (simp [*]; done), by repeat (first | exact Drawn0.refl _ | apply Drawn0.step)⟩
      · rw [if_neg c5] at H
        exact absurd H (by simp)
    · rw [if_neg c4] at H
      exact absurd H (by simp)
  · rw [if_neg c3] at H
    have c3b0 : decide ((a1.size : Int) ≤ (a0.size : Int)) = false := decide_eq_false c3
    have c3b1 : decide (a1.size ≤ a0.size) = false := decide_eq_false (fun h => c3 (Int.ofNat_le.mpr h))
    clear c3
    obtain rfl := Option.some.inj H
    go_enter Tryz.func305, Tryz.ntmps305
    go_wp2
    go_ret
    exact ⟨by first | rfl | (simp; done) | (simp [*]; done), by repeat (first | exact Drawn0.refl _ | apply Drawn0.step)⟩

/-! ### strings_HasPrefix: function 36 -/
def strings_HasPrefix.f (a0 : ByteArray) (a1 : ByteArray) : Option (Bool) := (stringslite_HasPrefix.f a0 a1).bind fun t101 => (some t101)
set_option maxHeartbeats 8000000 in
set_option maxRecDepth 100000 in
theorem strings_HasPrefix.calls (a0 : ByteArray) (a1 : ByteArray) (r : Bool) (w : World) (h : strings_HasPrefix.f a0 a1 = some r) :
    Calls Tryz.prog 192 #[.string a0, .string a1] w fun e w' => e = .returned (.bool r) ∧ Drawn0 w w' := by
  have H : ((stringslite_HasPrefix.f a0 a1).bind fun t101 => (some t101)) = some r := h
  clear h
  replace H := Option.bind_eq_some_iff.mp H
  obtain ⟨t101, A30, H⟩ := H
  replace H : (some t101) = some r := H
  have A3 := Aside0.mk A30
  clear A30
  obtain rfl := Option.some.inj H
  go_enter Tryz.func192, Tryz.ntmps192
  go_wp2_with (first | ((with_reducible refine gate_callee (f := 305) rfl ?_); refine goesL_ (some 7) rfl rfl Tryz.func305 (by kernel_rfl) rfl #[.string a0, .string a1] rfl (by (try simp only [List.map_toArray, List.map_cons, List.map_nil]); first | done | rfl | (simp only [List.length_drop, List.length_take]; rfl)) ?_; (with_reducible refine (stringslite_HasPrefix.calls a0 a1 t101 _ A3.out).mono ?_); rintro e w' ⟨rfl, ⟨nd, rfl⟩⟩; refine ⟨_, rfl, ?_⟩))
  go_ret
  exact ⟨by first | rfl | (simp; done) | (simp [*]; done), by repeat (first | exact Drawn0.refl _ | apply Drawn0.step)⟩

/-! ### stringslite_TrimPrefix: function 44 -/
def stringslite_TrimPrefix.f (a0 : ByteArray) (a1 : ByteArray) : Option (ByteArray) := (stringslite_HasPrefix.f a0 a1).bind fun t102 => (if t102 = true then (if 0 ≤ (a1.size : Int) then (if (a1.size : Int) ≤ (a0.size : Int) then (some (a0.extract ((a1.size : Int) : Int).toNat a0.size)) else (none)) else (none)) else (some a0))
set_option maxHeartbeats 8000000 in
set_option maxRecDepth 100000 in
theorem stringslite_TrimPrefix.calls (a0 : ByteArray) (a1 : ByteArray) (r : ByteArray) (w : World) (h : stringslite_TrimPrefix.f a0 a1 = some r) :
    Calls Tryz.prog 379 #[.string a0, .string a1] w fun e w' => e = .returned (.string r) ∧ Drawn0 w w' := by
  have H : ((stringslite_HasPrefix.f a0 a1).bind fun t102 => (if t102 = true then (if 0 ≤ (a1.size : Int) then (if (a1.size : Int) ≤ (a0.size : Int) then (some (a0.extract ((a1.size : Int) : Int).toNat a0.size)) else (none)) else (none)) else (some a0))) = some r := h
  clear h
  replace H := Option.bind_eq_some_iff.mp H
  obtain ⟨t102, A30, H⟩ := H
  replace H : (if t102 = true then (if 0 ≤ (a1.size : Int) then (if (a1.size : Int) ≤ (a0.size : Int) then (some (a0.extract ((a1.size : Int) : Int).toNat a0.size)) else (none)) else (none)) else (some a0)) = some r := H
  have A3 := Aside0.mk A30
  clear A30
  by_cases c4 : t102 = true
  · subst c4
    have H1 : (if 0 ≤ (a1.size : Int) then (if (a1.size : Int) ≤ (a0.size : Int) then (some (a0.extract ((a1.size : Int) : Int).toNat a0.size)) else (none)) else (none)) = some r := by rw [if_pos rfl] at H; exact H
    clear H
    have H := H1
    clear H1
    by_cases c5 : 0 ≤ (a1.size : Int)
    · rw [if_pos c5] at H
      have c5b0 := eq_true c5
      have c5b1 : decide (0 ≤ (a1.size : Int)) = true := decide_eq_true c5
      clear c5
      by_cases c6 : (a1.size : Int) ≤ (a0.size : Int)
      · rw [if_pos c6] at H
        have c6b0 := eq_true c6
        have c6b1 : decide ((a1.size : Int) ≤ (a0.size : Int)) = true := decide_eq_true c6
        clear c6
        obtain rfl := Option.some.inj H
        go_enter Tryz.func379, Tryz.ntmps379
        go_wp2_with (first | ((with_reducible refine gate_callee (f := 305) rfl ?_); refine goesL_ (some 7) rfl rfl Tryz.func305 (by kernel_rfl) rfl #[.string a0, .string a1] rfl (by (try simp only [List.map_toArray, List.map_cons, List.map_nil]); first | done | rfl | (simp only [List.length_drop, List.length_take]; rfl)) ?_; (with_reducible refine (stringslite_HasPrefix.calls a0 a1 true _ A3.out).mono ?_); rintro e w' ⟨rfl, ⟨nd, rfl⟩⟩; refine ⟨_, rfl, ?_⟩))
        go_ret
        exact ⟨by first | rfl | (simp; done) | (simp [*]; done), by repeat (first | exact Drawn0.refl _ | apply Drawn0.step)⟩
      · rw [if_neg c6] at H
        exact absurd H (by simp)
    · rw [if_neg c5] at H
      exact absurd H (by simp)
  · replace c4 := Bool.eq_false_iff.mpr c4
    subst c4
    have H1 : (some a0) = some r := by rw [if_neg (show ¬ (false = true) by decide)] at H; exact H
    clear H
    have H := H1
    clear H1
    obtain rfl := Option.some.inj H
    go_enter Tryz.func379, Tryz.ntmps379
    go_wp2_with (first | ((with_reducible refine gate_callee (f := 305) rfl ?_); refine goesL_ (some 7) rfl rfl Tryz.func305 (by kernel_rfl) rfl #[.string a0, .string a1] rfl (by (try simp only [List.map_toArray, List.map_cons, List.map_nil]); first | done | rfl | (simp only [List.length_drop, List.length_take]; rfl)) ?_; (with_reducible refine (stringslite_HasPrefix.calls a0 a1 false _ A3.out).mono ?_); rintro e w' ⟨rfl, ⟨nd, rfl⟩⟩; refine ⟨_, rfl, ?_⟩))
    go_ret
    exact ⟨by first | rfl | (simp; done) | (simp [*]; done), by repeat (first | exact Drawn0.refl _ | apply Drawn0.step)⟩

/-! ### strings_TrimPrefix: function 37 -/
def strings_TrimPrefix.f (a0 : ByteArray) (a1 : ByteArray) : Option (ByteArray) := (stringslite_TrimPrefix.f a0 a1).bind fun t103 => (some t103)
set_option maxHeartbeats 8000000 in
set_option maxRecDepth 100000 in
theorem strings_TrimPrefix.calls (a0 : ByteArray) (a1 : ByteArray) (r : ByteArray) (w : World) (h : strings_TrimPrefix.f a0 a1 = some r) :
    Calls Tryz.prog 296 #[.string a0, .string a1] w fun e w' => e = .returned (.string r) ∧ Drawn0 w w' := by
  have H : ((stringslite_TrimPrefix.f a0 a1).bind fun t103 => (some t103)) = some r := h
  clear h
  replace H := Option.bind_eq_some_iff.mp H
  obtain ⟨t103, A30, H⟩ := H
  replace H : (some t103) = some r := H
  have A3 := Aside0.mk A30
  clear A30
  obtain rfl := Option.some.inj H
  go_enter Tryz.func296, Tryz.ntmps296
  go_wp2_with (first | ((with_reducible refine gate_callee (f := 379) rfl ?_); refine goesL_ (some 7) rfl rfl Tryz.func379 (by kernel_rfl) rfl #[.string a0, .string a1] rfl (by (try simp only [List.map_toArray, List.map_cons, List.map_nil]); first | done | rfl | (simp only [List.length_drop, List.length_take]; rfl)) ?_; (with_reducible refine (stringslite_TrimPrefix.calls a0 a1 t103 _ A3.out).mono ?_); rintro e w' ⟨rfl, ⟨nd, rfl⟩⟩; refine ⟨_, rfl, ?_⟩))
  go_ret
  exact ⟨by first | rfl | (simp; done) | (simp [*]; done), by repeat (first | exact Drawn0.refl _ | apply Drawn0.step)⟩

-- BY HAND: function 26 (getopt_parse)

-- NOT PRINTED: function 27 (getopt_state_next)

-- NOT PRINTED: function 54 (bytealg_IndexByteString)

-- NOT PRINTED: function 48 (stringslite_IndexByte)

-- NOT PRINTED: function 49 (bytealg_IndexString)

-- NOT PRINTED: function 50 (bytealg_Cutover)

-- NOT PRINTED: function 55 (bytealg_hashStr_string)

-- NOT PRINTED: function 51 (bytealg_IndexRabinKarp_string)

-- NOT PRINTED: function 45 (stringslite_Index)

-- NOT PRINTED: function 39 (strings_Index)

-- BY HAND: function 32 (strings_Contains)

-- NOT PRINTED: function 28 (getopt_state_cluster)

-- BY HAND: function 8 (getopt_Parse)

end Go.Proofs.YtfchidckklhmpaaGreatDoor.G

/- Small laws on byte strings made of lists, and on the spec's scan. -/
namespace Go.Proofs.YtfchidckklhmpaaGreatDoor.G
open Go.RowKit Go.Proofs.YtfchidckklhmpaaGreatDoorW.PrintWords

theorem mkB_size (s : List UInt8) : (mkB s).size = s.length := by simp [mkB, ByteArray.size]
theorem mkB_get (s : List UInt8) (j : Nat) (h : j < (mkB s).size) : ((mkB s)[j]'h) = s[j]'(by rw [← mkB_size]; exact h) := by
  simp [mkB, ByteArray.getElem_eq_getElem_data]
theorem mkB_data (l : List UInt8) : (mkB l).data.toList = l := by simp [mkB]
theorem mkB_toList (s : ByteArray) : mkB s.data.toList = s := by simp [mkB]
theorem eq_mkB {a : ByteArray} {l : List UInt8} (h : a.data.toList = l) : a = mkB l := by rw [← h, mkB_toList]
theorem mkB_append (a b : List UInt8) : mkB a ++ mkB b = mkB (a ++ b) := eq_mkB (by simp [mkB])
theorem mkB_cut (l : List UInt8) (i j : Nat) : (mkB l).extract i j = mkB ((l.drop i).take (j - i)) := eq_mkB (by simp [mkB])
theorem mkB_drop (l : List UInt8) (i : Nat) : (mkB l).extract i (mkB l).size = mkB (l.drop i) := by
  rw [mkB_cut, mkB_size, List.take_of_length_le (by simp)]
theorem mkB_take1 (l : List UInt8) (i : Nat) (h : i < l.length) : (mkB l).extract i (i + 1) = mkB [l[i]] := by
  rw [mkB_cut, List.drop_eq_getElem_cons h, show i + 1 - i = 1 from by omega]
  rfl
theorem data_length (s : ByteArray) : s.data.toList.length = s.size := Array.length_toList
theorem strip_le (l : List UInt8) : (strip l).length ≤ l.length := by unfold strip; split <;> simp

theorem isLet_low {b : UInt8} (h : isLet b = true) : b.toNat < 128 := by
  simp [isLet] at h
  omega
theorem isLet_58 {b : UInt8} (h : isLet b = true) : b.toNat ≠ 58 := by
  simp [isLet] at h
  omega

/-- the plain side of the scan's relation -/
structure PFact (L : List UInt8) (pos : Nat) (ls ts : List UInt8) (last : Bool) : Prop where
  le : pos ≤ L.length
  run : scan (L.drop pos) ls ts last = scan L [] [] false
  nl : ls.length ≤ pos
  nt : ts.length ≤ pos
  asc : ∀ b ∈ ls, b.toNat < 128
  ne : last = true → 0 < ls.length

theorem PFact.start (L : List UInt8) : PFact L 0 [] [] false := ⟨Nat.zero_le _, by simp, by simp, by simp, by simp, by simp⟩
section
variable {L : List UInt8} {pos : Nat} {ls ts : List UInt8} {last : Bool} {b : UInt8}
theorem PFact.colon (h : PFact L pos ls ts true) (hp : pos < L.length) (hd : L.drop pos = b :: L.drop (pos + 1)) (hc : b.toNat = 58) : PFact L (pos + 1) ls (ts ++ ls.drop (ls.length - 1)) false := by
  have h1 := h.ne rfl
  have h2 := h.nl
  have h3 := h.nt
  refine ⟨hp, ?_, by omega, by simp; omega, h.asc, by simp⟩
  rw [← h.run, hd]
  simp [scan, hc]
theorem PFact.letter (h : PFact L pos ls ts last) (hp : pos < L.length) (hd : L.drop pos = b :: L.drop (pos + 1)) (hl : isLet b = true) (hn : ls.contains b = false) : PFact L (pos + 1) (ls ++ [b]) ts true := by
  have h1 := isLet_58 hl
  have h2 := h.nl
  have h3 := h.nt
  refine ⟨hp, ?_, by simp; omega, by omega, ?_, by simp⟩
  · rw [← h.run, hd]
    rw [scan, if_neg (fun e => h1 e.1), if_pos ⟨hl, hn⟩]
  · intro x hx
    rcases List.mem_append.1 hx with hx | hx
    · exact h.asc x hx
    · rw [List.mem_singleton.1 hx]; exact isLet_low hl
theorem PFact.fail (h : PFact L pos ls ts last) (hd : L.drop pos = b :: L.drop (pos + 1)) (h1 : ¬ (b.toNat = 58 ∧ last = true)) (h2 : ¬ (isLet b = true ∧ ls.contains b = false)) : scan L [] [] false = none := by
  rw [← h.run, hd, scan, if_neg h1, if_neg h2]
theorem PFact.done (h : PFact L pos ls ts last) (hp : ¬ pos < L.length) : scan L [] [] false = some (ls, ts) := by
  rw [← h.run, List.drop_eq_nil_of_le (by omega), scan]
end

theorem encode_ascii (c : Nat) (h : c < 128) (b : UInt8) (hb : b.toNat = c) : Utf8.encode (c : Int) = mkB [b] := by
  subst hb
  have e : UInt8.ofNat b.toNat = b := by simp
  have hv : Utf8.valid (b.toNat : Int) = true := by
    simp [Utf8.valid]
    omega
  unfold Utf8.encode
  simp [hv, h, mkB]

theorem bt_data (x : ByteArray) (i : Nat) : bt x i = ((x.data.toList[i]?).map (fun b => (b.toNat : Int))).getD 0 := by
  unfold bt
  rw [Int.toNat_natCast]
  by_cases h : i < x.size
  · rw [dif_pos h, List.getElem?_eq_getElem (by rw [data_length]; exact h)]
    simp [ByteArray.getElem_eq_getElem_data]
  · rw [dif_neg h, List.getElem?_eq_none (by rw [data_length]; omega)]
    rfl
theorem isClus_true {x : ByteArray} (h : isClus x = true) : 1 < x.size ∧ (bt x 0 == 45) = true := by
  unfold isClus at h
  rw [Bool.and_eq_true] at h
  refine ⟨of_decide_eq_true h.1, ?_⟩
  have hb := bt_data x 0
  have e : ((0 : Nat) : Int) = 0 := rfl
  rw [e] at hb
  rw [hb]
  cases hd : x.data.toList with
  | nil => rw [hd] at h; simp at h
  | cons b r =>
    rw [hd] at h
    have := beq_iff_eq.1 h.2
    simp [this]
theorem isClus_false {x : ByteArray} (h : isClus x = false) : x.size ≤ 1 ∨ (1 < x.size ∧ (bt x 0 == 45) = false) := by
  by_cases hz : 1 < x.size
  · refine .inr ⟨hz, ?_⟩
    unfold isClus at h
    rw [decide_eq_true hz, Bool.true_and] at h
    have hb := bt_data x 0
    have e : ((0 : Nat) : Int) = 0 := rfl
    rw [e] at hb
    rw [hb]
    cases hd : x.data.toList with
    | nil => simp
    | cons b r =>
      rw [hd] at h
      have h2 : ¬ b.toNat = 45 := by simpa using h
      rw [beq_eq_false_iff_ne]
      simp
      omega
  · exact .inl (by omega)

theorem lite_plus (s : ByteArray) : stringslite_HasPrefix.f s ⟨#[43]⟩ = some (plus s.data.toList) := by
  have hz : (⟨#[43]⟩ : ByteArray).size = 1 := rfl
  unfold stringslite_HasPrefix.f
  rw [hz]
  by_cases h : (s.size : Int) ≥ ((1 : Nat) : Int)
  · rw [if_pos h, if_pos (by omega), if_pos (by omega)]
    congr 1
    rw [ByteArray.toList_eq, ByteArray.toList_eq]
    have hl := data_length s
    cases hd : s.data.toList with
    | nil => rw [hd] at hl; simp at hl; omega
    | cons b r =>
      have e : (s.extract 0 ((1 : Nat) : Int).toNat).data.toList = [b] := by
        simp [hd]
      rw [e]
      simp only [plus]
      rw [Bool.eq_iff_iff]
      simp
      constructor
      · intro h; rw [h]; rfl
      · intro h; exact UInt8.toNat_inj.1 h
  · rw [if_neg h]
    have hl := data_length s
    have : s.data.toList = [] := List.eq_nil_of_length_eq_zero (by omega)
    rw [this]
    rfl
theorem hasPrefix_plus (s : ByteArray) : strings_HasPrefix.f s ⟨#[43]⟩ = some (plus s.data.toList) := by
  unfold strings_HasPrefix.f
  rw [lite_plus]
  rfl
theorem trimPrefix_plus (s : ByteArray) : strings_TrimPrefix.f s ⟨#[43]⟩ = some (mkB (strip s.data.toList)) := by
  unfold strings_TrimPrefix.f stringslite_TrimPrefix.f
  rw [lite_plus]
  have hz : (⟨#[43]⟩ : ByteArray).size = 1 := rfl
  rw [hz]
  simp only [Option.bind_some]
  have hl := data_length s
  by_cases h : plus s.data.toList = true
  · have h1 : 1 ≤ s.size := by
      rw [← hl]
      cases hd : s.data.toList with
      | nil => rw [hd] at h; simp [plus] at h
      | cons b r => simp
    rw [if_pos h, if_pos (by omega), if_pos (by omega)]
    simp only [Option.bind_some, strip, if_pos h]
    congr 1
    have e : (((1 : Nat) : Int)).toNat = 1 := rfl
    rw [e, ← mkB_toList s, mkB_drop, mkB_data]
  · rw [if_neg h]
    simp only [Option.bind_some, strip, if_neg h]
    rw [mkB_toList]

end Go.Proofs.YtfchidckklhmpaaGreatDoor.G

/- getopt.hasRune over a text of ASCII letters: is a rune one of its bytes? -/
namespace Go.Proofs.YtfchidckklhmpaaGreatDoor.G
open Go.RowKit Go.Proofs.YtfchidckklhmpaaGreatDoorW.PrintWords
set_option linter.unusedVariables false
set_option linter.unusedSimpArgs false

def hasR (s : List UInt8) (r : Int) : Bool := s.any (fun b => (b.toNat : Int) == r)

theorem hasR_end (s : List UInt8) (r : Int) (h : ∀ j, (hj : j < s.length) → (((s[j]'hj).toNat : Int) == r) = false) : hasR s r = false := by
  unfold hasR
  rw [List.any_eq_false]
  intro x hx
  obtain ⟨j, hj, rfl⟩ := List.mem_iff_getElem.1 hx
  simp [h j hj]
theorem hasR_hit (s : List UInt8) (r : Int) (j : Nat) (hj : j < s.length) (h : (((s[j]'hj).toNat : Int) == r) = true) : hasR s r = true := by
  unfold hasR
  rw [List.any_eq_true]
  exact ⟨s[j], List.getElem_mem hj, h⟩

set_option maxHeartbeats 1000000 in
theorem hasRune_calls (s : List UInt8) (r : Int) (w : World) (ha : ∀ b ∈ s, b.toNat < 128) (hs : s.length ≤ 140737488355328) :
    Calls Tryz.prog 297 #[.string (mkB s), .int .i32 r] w fun e w' => e = .returned (.bool (hasR s r)) ∧ Below w.heap.size w w' := by
  have HA := Lib.hid ha
  clear ha
  obtain ⟨S, hS⟩ : ∃ S, S = mkB s := ⟨_, rfl⟩
  rw [← hS]
  have hsz : S.size = s.length := by rw [hS]; exact mkB_size s
  have HS := Lib.hid hS
  have HZ := Lib.hid hsz
  clear hS hsz
  go_enter Tryz.func297, Tryz.ntmps297
  go_wp2
  go_loopw [] (fun wr => ∃ (pos : Nat), pos ≤ S.size ∧ wr.heap[w.heap.size]? = some (.stringIter S pos) ∧ Below w.heap.size w wr ∧ Hid (∀ j, (hj : j < s.length) → j < pos → (((s[j]'hj).toNat : Int) == r) = false)) (fun wr => S.size - wr.iterPos w.heap.size)
  case atStart =>
    refine ⟨0, Nat.zero_le _, ?_, (Below.refl _ w).alloc (Nat.le_refl _) _, Lib.hid (fun j hj h => by omega)⟩
    have := World.iter_heap w S 0
    simpa using this
  case round =>
    obtain ⟨pos, hps, hit, hbw, HN⟩ := hrel
    have hszw : w.heap.size < wr.heap.size := (Array.getElem?_eq_some_iff.1 hit).1
    by_cases hp : pos < S.size
    · have hpl : pos < s.length := by have := HZ.out; omega
      have hc8 : (S[pos]'hp).toNat < 128 := by
        have e : S[pos]'hp = s[pos]'hpl := by simp only [HS.out]; exact mkB_get s pos _
        rw [e]; exact HA.out _ (List.getElem_mem hpl)
      have hcc : ((S[pos]'hp).toNat : Int) = ((s[pos]'hpl).toNat : Int) := by
        have e : S[pos]'hp = s[pos]'hpl := by simp only [HS.out]; exact mkB_get s pos _
        rw [e]
      obtain ⟨c, hcd⟩ : ∃ c : Nat, (S[pos]'hp).toNat = c := ⟨_, rfl⟩
      have hnx : ∀ ty, (Instr.next (.pointer (some ⟨w.heap.size, 0, none⟩)) true ty).run Tryz.prog wr = _ := fun ty => Lib.run_next_ascii_at wr w.heap.size S pos ty hit hp hc8
      have hit2 := Lib.iterAt_heap wr w.heap.size S pos (pos + 1) hit
      have hbw2 := Lib.below_iterAt hbw (k := w.heap.size) (by omega) S (pos + 1)
      simp only [hcd] at hnx hcc
      have HC := Lib.hid hcc
      clear hcd hcc hc8
      by_cases hr : ((c : Int) == r) = true
      · have hfin : hasR s r = true := hasR_hit s r pos hpl (by rw [← HC.out]; exact hr)
        go_wp2
        go_ret
        rw [hfin]
        exact ⟨rfl, hbw2⟩
      · have hr2 : ((c : Int) == r) = false := by simpa using hr
        clear hr
        have HN2 : Hid (∀ j, (hj : j < s.length) → j < pos + 1 → (((s[j]'hj).toNat : Int) == r) = false) := fun j hj h => by
          by_cases e : j = pos
          · subst e; rw [← HC.out]; exact hr2
          · exact HN.out j hj (by omega)
        go_wp2
        go_roundw
        case rel => exact ⟨pos + 1, by omega, hit2, hbw2, HN2⟩
        case measure => simp only [World.iterPos, hit2, hit]; omega
    · have hnx : ∀ ty, (Instr.next (.pointer (some ⟨w.heap.size, 0, none⟩)) true ty).run Tryz.prog wr = _ := fun ty => Lib.run_next_end_at wr w.heap.size S pos ty hit hp
      have hfin : hasR s r = false := hasR_end s r (fun j hj => HN.out j hj (by have := HZ.out; omega))
      go_wp2
      go_ret
      rw [hfin]
      exact ⟨rfl, hbw⟩

end Go.Proofs.YtfchidckklhmpaaGreatDoor.G
