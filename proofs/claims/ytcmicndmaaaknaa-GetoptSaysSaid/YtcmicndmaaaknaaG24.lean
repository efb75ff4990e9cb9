-- Made by a program of this session out of the translation; Lean checks it.
import Derived.Test.YtcmicndmaaaknaaG0
namespace Go.Proofs.Ytcmicndmaaaknaa.G
open Go.RowKit Go.Proofs.YtcmicndmaaaknaaW.PrintWords Go.Proofs.YtcmicndmaaaknaaW.PrintLast Go.Proofs.YtcmicndmaaaknaaW.PrintMore
attribute [local go_sem] max2_int min2_int max_two min_two max_three min_three max_four min_four   -- for this text's walks alone
set_option linter.unusedVariables false
set_option linter.unusedSimpArgs false

/-! ### getopt_Says: function 24 -/
def getopt_Says.f (a0 : ByteArray) (a1_0 : ByteArray) (a1_1 : Bool) : Option (ByteArray) := if a1_1 = true then (if a0.size + 34 ≤ 9223372036854775807 then (if (a0 ++ (⟨#[58, 32, 111, 112, 116, 105, 111, 110, 32, 114, 101, 113, 117, 105, 114, 101, 115, 32, 97, 110, 32, 97, 114, 103, 117, 109, 101, 110, 116, 32, 45, 45, 32, 39]⟩ : ByteArray)).size + a1_0.size ≤ 9223372036854775807 then (if ((a0 ++ (⟨#[58, 32, 111, 112, 116, 105, 111, 110, 32, 114, 101, 113, 117, 105, 114, 101, 115, 32, 97, 110, 32, 97, 114, 103, 117, 109, 101, 110, 116, 32, 45, 45, 32, 39]⟩ : ByteArray)) ++ a1_0).size + 1 ≤ 9223372036854775807 then (some (((a0 ++ (⟨#[58, 32, 111, 112, 116, 105, 111, 110, 32, 114, 101, 113, 117, 105, 114, 101, 115, 32, 97, 110, 32, 97, 114, 103, 117, 109, 101, 110, 116, 32, 45, 45, 32, 39]⟩ : ByteArray)) ++ a1_0) ++ (⟨#[39]⟩ : ByteArray))) else (none)) else (none)) else (none)) else (if a0.size + 21 ≤ 9223372036854775807 then (if (a0 ++ (⟨#[58, 32, 105, 110, 118, 97, 108, 105, 100, 32, 111, 112, 116, 105, 111, 110, 32, 45, 45, 32, 39]⟩ : ByteArray)).size + a1_0.size ≤ 9223372036854775807 then (if ((a0 ++ (⟨#[58, 32, 105, 110, 118, 97, 108, 105, 100, 32, 111, 112, 116, 105, 111, 110, 32, 45, 45, 32, 39]⟩ : ByteArray)) ++ a1_0).size + 1 ≤ 9223372036854775807 then (some (((a0 ++ (⟨#[58, 32, 105, 110, 118, 97, 108, 105, 100, 32, 111, 112, 116, 105, 111, 110, 32, 45, 45, 32, 39]⟩ : ByteArray)) ++ a1_0) ++ (⟨#[39]⟩ : ByteArray))) else (none)) else (none)) else (none))
set_option maxHeartbeats 8000000 in
set_option maxRecDepth 100000 in
theorem getopt_Says.calls (a0 : ByteArray) (a1_0 : ByteArray) (a1_1 : Bool) (r : ByteArray) (w : World) (h : getopt_Says.f a0 a1_0 a1_1 = some r) :
    Calls Try.prog 24 #[.string a0, .agg #[.string a1_0, .bool a1_1]] w fun e w' => e = .returned (.string r) ∧ Below w.heap.size w w' := by
  have hu25 := Try.underlying25
  have HB := Aside0.mk (Below.refl w.heap.size w)
  have H : (if a1_1 = true then (if a0.size + 34 ≤ 9223372036854775807 then (if (a0 ++ (⟨#[58, 32, 111, 112, 116, 105, 111, 110, 32, 114, 101, 113, 117, 105, 114, 101, 115, 32, 97, 110, 32, 97, 114, 103, 117, 109, 101, 110, 116, 32, 45, 45, 32, 39]⟩ : ByteArray)).size + a1_0.size ≤ 9223372036854775807 then (if ((a0 ++ (⟨#[58, 32, 111, 112, 116, 105, 111, 110, 32, 114, 101, 113, 117, 105, 114, 101, 115, 32, 97, 110, 32, 97, 114, 103, 117, 109, 101, 110, 116, 32, 45, 45, 32, 39]⟩ : ByteArray)) ++ a1_0).size + 1 ≤ 9223372036854775807 then (some (((a0 ++ (⟨#[58, 32, 111, 112, 116, 105, 111, 110, 32, 114, 101, 113, 117, 105, 114, 101, 115, 32, 97, 110, 32, 97, 114, 103, 117, 109, 101, 110, 116, 32, 45, 45, 32, 39]⟩ : ByteArray)) ++ a1_0) ++ (⟨#[39]⟩ : ByteArray))) else (none)) else (none)) else (none)) else (if a0.size + 21 ≤ 9223372036854775807 then (if (a0 ++ (⟨#[58, 32, 105, 110, 118, 97, 108, 105, 100, 32, 111, 112, 116, 105, 111, 110, 32, 45, 45, 32, 39]⟩ : ByteArray)).size + a1_0.size ≤ 9223372036854775807 then (if ((a0 ++ (⟨#[58, 32, 105, 110, 118, 97, 108, 105, 100, 32, 111, 112, 116, 105, 111, 110, 32, 45, 45, 32, 39]⟩ : ByteArray)) ++ a1_0).size + 1 ≤ 9223372036854775807 then (some (((a0 ++ (⟨#[58, 32, 105, 110, 118, 97, 108, 105, 100, 32, 111, 112, 116, 105, 111, 110, 32, 45, 45, 32, 39]⟩ : ByteArray)) ++ a1_0) ++ (⟨#[39]⟩ : ByteArray))) else (none)) else (none)) else (none))) = some r := h
  clear h
  by_cases c3 : a1_1 = true
  · subst c3
    have H1 : (if a0.size + 34 ≤ 9223372036854775807 then (if (a0 ++ (⟨#[58, 32, 111, 112, 116, 105, 111, 110, 32, 114, 101, 113, 117, 105, 114, 101, 115, 32, 97, 110, 32, 97, 114, 103, 117, 109, 101, 110, 116, 32, 45, 45, 32, 39]⟩ : ByteArray)).size + a1_0.size ≤ 9223372036854775807 then (if ((a0 ++ (⟨#[58, 32, 111, 112, 116, 105, 111, 110, 32, 114, 101, 113, 117, 105, 114, 101, 115, 32, 97, 110, 32, 97, 114, 103, 117, 109, 101, 110, 116, 32, 45, 45, 32, 39]⟩ : ByteArray)) ++ a1_0).size + 1 ≤ 9223372036854775807 then (some (((a0 ++ (⟨#[58, 32, 111, 112, 116, 105, 111, 110, 32, 114, 101, 113, 117, 105, 114, 101, 115, 32, 97, 110, 32, 97, 114, 103, 117, 109, 101, 110, 116, 32, 45, 45, 32, 39]⟩ : ByteArray)) ++ a1_0) ++ (⟨#[39]⟩ : ByteArray))) else (none)) else (none)) else (none)) = some r := by rw [if_pos rfl] at H; exact H
    clear H
    have H := H1
    clear H1
    by_cases c4 : a0.size + 34 ≤ 9223372036854775807
    · rw [if_pos c4] at H
      have c4b0 := eq_true c4
      have c4b1 : decide (a0.size + 34 ≤ 9223372036854775807) = true := decide_eq_true c4
      try have c4b2 : (9223372036854775807 < a0.size + 34) = False := eq_false (Nat.not_lt.2 c4)
      have c4n2 : (9223372036854775807 < a0.size + 34) = False := eq_false (Nat.not_lt.2 (by have h_ := c4; (try simp only [ByteArray.size_append] at h_); first | exact h_ | simpa using h_ | omega))
      by_cases c5 : (a0 ++ (⟨#[58, 32, 111, 112, 116, 105, 111, 110, 32, 114, 101, 113, 117, 105, 114, 101, 115, 32, 97, 110, 32, 97, 114, 103, 117, 109, 101, 110, 116, 32, 45, 45, 32, 39]⟩ : ByteArray)).size + a1_0.size ≤ 9223372036854775807
      · rw [if_pos c5] at H
        have c5b0 := eq_true c5
        have c5b1 : decide ((a0 ++ (⟨#[58, 32, 111, 112, 116, 105, 111, 110, 32, 114, 101, 113, 117, 105, 114, 101, 115, 32, 97, 110, 32, 97, 114, 103, 117, 109, 101, 110, 116, 32, 45, 45, 32, 39]⟩ : ByteArray)).size + a1_0.size ≤ 9223372036854775807) = true := decide_eq_true c5
        try have c5b2 : (9223372036854775807 < (a0 ++ (⟨#[58, 32, 111, 112, 116, 105, 111, 110, 32, 114, 101, 113, 117, 105, 114, 101, 115, 32, 97, 110, 32, 97, 114, 103, 117, 109, 101, 110, 116, 32, 45, 45, 32, 39]⟩ : ByteArray)).size + a1_0.size) = False := eq_false (Nat.not_lt.2 c5)
        have c5n2 : (9223372036854775807 < a0.size + 34 + a1_0.size) = False := eq_false (Nat.not_lt.2 (by have h_ := c5; (try simp only [ByteArray.size_append] at h_); first | exact h_ | simpa using h_ | omega))
        by_cases c6 : ((a0 ++ (⟨#[58, 32, 111, 112, 116, 105, 111, 110, 32, 114, 101, 113, 117, 105, 114, 101, 115, 32, 97, 110, 32, 97, 114, 103, 117, 109, 101, 110, 116, 32, 45, 45, 32, 39]⟩ : ByteArray)) ++ a1_0).size + 1 ≤ 9223372036854775807
        · rw [if_pos c6] at H
          have c6b0 := eq_true c6
          have c6b1 : decide (((a0 ++ (⟨#[58, 32, 111, 112, 116, 105, 111, 110, 32, 114, 101, 113, 117, 105, 114, 101, 115, 32, 97, 110, 32, 97, 114, 103, 117, 109, 101, 110, 116, 32, 45, 45, 32, 39]⟩ : ByteArray)) ++ a1_0).size + 1 ≤ 9223372036854775807) = true := decide_eq_true c6
          try have c6b2 : (9223372036854775807 < ((a0 ++ (⟨#[58, 32, 111, 112, 116, 105, 111, 110, 32, 114, 101, 113, 117, 105, 114, 101, 115, 32, 97, 110, 32, 97, 114, 103, 117, 109, 101, 110, 116, 32, 45, 45, 32, 39]⟩ : ByteArray)) ++ a1_0).size + 1) = False := eq_false (Nat.not_lt.2 c6)
          have c6n2 : (9223372036854775807 < a0.size + 34 + a1_0.size + 1) = False := eq_false (Nat.not_lt.2 (by have h_ := c6; (try simp only [ByteArray.size_append] at h_); first | exact h_ | simpa using h_ | omega))
          obtain rfl := Option.some.inj H
          go_enter Try.func24, Try.ntmps24
          go_wp2_with (first | ((with_reducible refine gate_dst (N := 3) rfl ?_); refine box_event ?hg (N := 3) ?hd (cs := #[.string a1_0, .bool true]) (t := 25) ?hr ?_; (case hd => rfl); (case hg => rfl); (case hr => first | (go_simp; done) | (go_simp; rfl)); intro gb306 hg w7 hbox hb; have n0_ := Aside0.mk (below_step (by repeat (first | (with_reducible first | exact HB.out | apply below_alloc | apply pw_below_drewN | apply below_drew1) | exact HB.out)) hb); have n1_ := Aside0.mk (hbox); have n2_ := Aside0.mk ((by rw [hg]; exact (below_size (by repeat (first | (with_reducible first | exact HB.out | apply below_alloc | apply pw_below_drewN | apply below_drew1) | exact HB.out))) : w.heap.size ≤ gb306)); have n3_ := Aside0.mk ((by rw [hg]; exact (below_size (by repeat (first | (with_reducible first | exact HB.out | apply below_alloc | apply pw_below_drewN | apply below_drew1) | exact HB.out))) : w.heap.size ≤ gb306)); clear HB; have HB := n0_; have BK306 := n1_; have GW306 := n2_; have GE306 := n3_; clear n0_ n1_ n2_ n3_; clear hb hbox hg; have hcz8_0 : w7.cell? ⟨gb306, 0, none⟩ = some (.string a1_0) := (blk_cell BK306.out 0).trans rfl; have hcz8_1 : w7.cell? ⟨gb306, 1, none⟩ = some (.bool true) := (blk_cell BK306.out 1).trans rfl; have hfz8_0 := blk_frozen BK306.out 0; have hfz8_1 := blk_frozen BK306.out 1))
          go_ret
          exact ⟨by first | rfl | (simp [errW_none, errW_some] <;> rfl) | (simp [*, errW_none, errW_some] <;> rfl), by repeat (first | (with_reducible first | exact HB.out | apply below_alloc | apply pw_below_drewN | apply below_drew1 | refine below_set ?_ GE306.out) | exact HB.out)⟩
        · rw [if_neg c6] at H
          exact absurd H (by simp)
      · rw [if_neg c5] at H
        exact absurd H (by simp)
    · rw [if_neg c4] at H
      exact absurd H (by simp)
  · replace c3 := Bool.eq_false_iff.mpr c3
    subst c3
    have H1 : (if a0.size + 21 ≤ 9223372036854775807 then (if (a0 ++ (⟨#[58, 32, 105, 110, 118, 97, 108, 105, 100, 32, 111, 112, 116, 105, 111, 110, 32, 45, 45, 32, 39]⟩ : ByteArray)).size + a1_0.size ≤ 9223372036854775807 then (if ((a0 ++ (⟨#[58, 32, 105, 110, 118, 97, 108, 105, 100, 32, 111, 112, 116, 105, 111, 110, 32, 45, 45, 32, 39]⟩ : ByteArray)) ++ a1_0).size + 1 ≤ 9223372036854775807 then (some (((a0 ++ (⟨#[58, 32, 105, 110, 118, 97, 108, 105, 100, 32, 111, 112, 116, 105, 111, 110, 32, 45, 45, 32, 39]⟩ : ByteArray)) ++ a1_0) ++ (⟨#[39]⟩ : ByteArray))) else (none)) else (none)) else (none)) = some r := by rw [if_neg (show ¬ (false = true) by decide)] at H; exact H
    clear H
    have H := H1
    clear H1
    by_cases c9 : a0.size + 21 ≤ 9223372036854775807
    · rw [if_pos c9] at H
      have c9b0 := eq_true c9
      have c9b1 : decide (a0.size + 21 ≤ 9223372036854775807) = true := decide_eq_true c9
      try have c9b2 : (9223372036854775807 < a0.size + 21) = False := eq_false (Nat.not_lt.2 c9)
      have c9n2 : (9223372036854775807 < a0.size + 21) = False := eq_false (Nat.not_lt.2 (by have h_ := c9; (try simp only [ByteArray.size_append] at h_); first | exact h_ | simpa using h_ | omega))
      by_cases c10 : (a0 ++ (⟨#[58, 32, 105, 110, 118, 97, 108, 105, 100, 32, 111, 112, 116, 105, 111, 110, 32, 45, 45, 32, 39]⟩ : ByteArray)).size + a1_0.size ≤ 9223372036854775807
      · rw [if_pos c10] at H
        have c10b0 := eq_true c10
        have c10b1 : decide ((a0 ++ (⟨#[58, 32, 105, 110, 118, 97, 108, 105, 100, 32, 111, 112, 116, 105, 111, 110, 32, 45, 45, 32, 39]⟩ : ByteArray)).size + a1_0.size ≤ 9223372036854775807) = true := decide_eq_true c10
        try have c10b2 : (9223372036854775807 < (a0 ++ (⟨#[58, 32, 105, 110, 118, 97, 108, 105, 100, 32, 111, 112, 116, 105, 111, 110, 32, 45, 45, 32, 39]⟩ : ByteArray)).size + a1_0.size) = False := eq_false (Nat.not_lt.2 c10)
        have c10n2 : (9223372036854775807 < a0.size + 21 + a1_0.size) = False := eq_false (Nat.not_lt.2 (by have h_ := c10; (try simp only [ByteArray.size_append] at h_); first | exact h_ | simpa using h_ | omega))
        by_cases c11 : ((a0 ++ (⟨#[58, 32, 105, 110, 118, 97, 108, 105, 100, 32, 111, 112, 116, 105, 111, 110, 32, 45, 45, 32, 39]⟩ : ByteArray)) ++ a1_0).size + 1 ≤ 9223372036854775807
        · rw [if_pos c11] at H
          have c11b0 := eq_true c11
          have c11b1 : decide (((a0 ++ (⟨#[58, 32, 105, 110, 118, 97, 108, 105, 100, 32, 111, 112, 116, 105, 111, 110, 32, 45, 45, 32, 39]⟩ : ByteArray)) ++ a1_0).size + 1 ≤ 9223372036854775807) = true := decide_eq_true c11
          try have c11b2 : (9223372036854775807 < ((a0 ++ (⟨#[58, 32, 105, 110, 118, 97, 108, 105, 100, 32, 111, 112, 116, 105, 111, 110, 32, 45, 45, 32, 39]⟩ : ByteArray)) ++ a1_0).size + 1) = False := eq_false (Nat.not_lt.2 c11)
          have c11n2 : (9223372036854775807 < a0.size + 21 + a1_0.size + 1) = False := eq_false (Nat.not_lt.2 (by have h_ := c11; (try simp only [ByteArray.size_append] at h_); first | exact h_ | simpa using h_ | omega))
          obtain rfl := Option.some.inj H
          go_enter Try.func24, Try.ntmps24
          go_wp2_with (first | ((with_reducible refine gate_dst (N := 3) rfl ?_); refine box_event ?hg (N := 3) ?hd (cs := #[.string a1_0, .bool false]) (t := 25) ?hr ?_; (case hd => rfl); (case hg => rfl); (case hr => first | (go_simp; done) | (go_simp; rfl)); intro gb306 hg w12 hbox hb; have n0_ := Aside0.mk (below_step (by repeat (first | (with_reducible first | exact HB.out | apply below_alloc | apply pw_below_drewN | apply below_drew1) | exact HB.out)) hb); have n1_ := Aside0.mk (hbox); have n2_ := Aside0.mk ((by rw [hg]; exact (below_size (by repeat (first | (with_reducible first | exact HB.out | apply below_alloc | apply pw_below_drewN | apply below_drew1) | exact HB.out))) : w.heap.size ≤ gb306)); have n3_ := Aside0.mk ((by rw [hg]; exact (below_size (by repeat (first | (with_reducible first | exact HB.out | apply below_alloc | apply pw_below_drewN | apply below_drew1) | exact HB.out))) : w.heap.size ≤ gb306)); clear HB; have HB := n0_; have BK306 := n1_; have GW306 := n2_; have GE306 := n3_; clear n0_ n1_ n2_ n3_; clear hb hbox hg; have hcz13_0 : w12.cell? ⟨gb306, 0, none⟩ = some (.string a1_0) := (blk_cell BK306.out 0).trans rfl; have hcz13_1 : w12.cell? ⟨gb306, 1, none⟩ = some (.bool false) := (blk_cell BK306.out 1).trans rfl; have hfz13_0 := blk_frozen BK306.out 0; have hfz13_1 := blk_frozen BK306.out 1))
          go_ret
          exact ⟨by first | rfl | (simp [errW_none, errW_some] <;> rfl) | (simp [*, errW_none, errW_some] <;> rfl), by repeat (first | (with_reducible first | exact HB.out | apply below_alloc | apply pw_below_drewN | apply below_drew1 | refine below_set ?_ GE306.out) | exact HB.out)⟩
        · rw [if_neg c11] at H
          exact absurd H (by simp)
      · rw [if_neg c10] at H
        exact absurd H (by simp)
    · rw [if_neg c9] at H
      exact absurd H (by simp)

/-! ### tinselref09_Says: function 25 -/
def tinselref09_Says.f (a0 : ByteArray) (a1_0 : ByteArray) (a1_1 : Bool) : Option (ByteArray) := if a1_1 = true then (if a0.size + 34 ≤ 9223372036854775807 then (if (a0 ++ (⟨#[58, 32, 111, 112, 116, 105, 111, 110, 32, 114, 101, 113, 117, 105, 114, 101, 115, 32, 97, 110, 32, 97, 114, 103, 117, 109, 101, 110, 116, 32, 45, 45, 32, 39]⟩ : ByteArray)).size + a1_0.size ≤ 9223372036854775807 then (if ((a0 ++ (⟨#[58, 32, 111, 112, 116, 105, 111, 110, 32, 114, 101, 113, 117, 105, 114, 101, 115, 32, 97, 110, 32, 97, 114, 103, 117, 109, 101, 110, 116, 32, 45, 45, 32, 39]⟩ : ByteArray)) ++ a1_0).size + 1 ≤ 9223372036854775807 then (some (((a0 ++ (⟨#[58, 32, 111, 112, 116, 105, 111, 110, 32, 114, 101, 113, 117, 105, 114, 101, 115, 32, 97, 110, 32, 97, 114, 103, 117, 109, 101, 110, 116, 32, 45, 45, 32, 39]⟩ : ByteArray)) ++ a1_0) ++ (⟨#[39]⟩ : ByteArray))) else (none)) else (none)) else (none)) else (if a0.size + 21 ≤ 9223372036854775807 then (if (a0 ++ (⟨#[58, 32, 105, 110, 118, 97, 108, 105, 100, 32, 111, 112, 116, 105, 111, 110, 32, 45, 45, 32, 39]⟩ : ByteArray)).size + a1_0.size ≤ 9223372036854775807 then (if ((a0 ++ (⟨#[58, 32, 105, 110, 118, 97, 108, 105, 100, 32, 111, 112, 116, 105, 111, 110, 32, 45, 45, 32, 39]⟩ : ByteArray)) ++ a1_0).size + 1 ≤ 9223372036854775807 then (some (((a0 ++ (⟨#[58, 32, 105, 110, 118, 97, 108, 105, 100, 32, 111, 112, 116, 105, 111, 110, 32, 45, 45, 32, 39]⟩ : ByteArray)) ++ a1_0) ++ (⟨#[39]⟩ : ByteArray))) else (none)) else (none)) else (none))
set_option maxHeartbeats 8000000 in
set_option maxRecDepth 100000 in
theorem tinselref09_Says.calls (a0 : ByteArray) (a1_0 : ByteArray) (a1_1 : Bool) (r : ByteArray) (w : World) (h : tinselref09_Says.f a0 a1_0 a1_1 = some r) :
    Calls Try.prog 25 #[.string a0, .agg #[.string a1_0, .bool a1_1]] w fun e w' => e = .returned (.string r) ∧ Below w.heap.size w w' := by
  have hu25 := Try.underlying25
  have HB := Aside0.mk (Below.refl w.heap.size w)
  have H : (if a1_1 = true then (if a0.size + 34 ≤ 9223372036854775807 then (if (a0 ++ (⟨#[58, 32, 111, 112, 116, 105, 111, 110, 32, 114, 101, 113, 117, 105, 114, 101, 115, 32, 97, 110, 32, 97, 114, 103, 117, 109, 101, 110, 116, 32, 45, 45, 32, 39]⟩ : ByteArray)).size + a1_0.size ≤ 9223372036854775807 then (if ((a0 ++ (⟨#[58, 32, 111, 112, 116, 105, 111, 110, 32, 114, 101, 113, 117, 105, 114, 101, 115, 32, 97, 110, 32, 97, 114, 103, 117, 109, 101, 110, 116, 32, 45, 45, 32, 39]⟩ : ByteArray)) ++ a1_0).size + 1 ≤ 9223372036854775807 then (some (((a0 ++ (⟨#[58, 32, 111, 112, 116, 105, 111, 110, 32, 114, 101, 113, 117, 105, 114, 101, 115, 32, 97, 110, 32, 97, 114, 103, 117, 109, 101, 110, 116, 32, 45, 45, 32, 39]⟩ : ByteArray)) ++ a1_0) ++ (⟨#[39]⟩ : ByteArray))) else (none)) else (none)) else (none)) else (if a0.size + 21 ≤ 9223372036854775807 then (if (a0 ++ (⟨#[58, 32, 105, 110, 118, 97, 108, 105, 100, 32, 111, 112, 116, 105, 111, 110, 32, 45, 45, 32, 39]⟩ : ByteArray)).size + a1_0.size ≤ 9223372036854775807 then (if ((a0 ++ (⟨#[58, 32, 105, 110, 118, 97, 108, 105, 100, 32, 111, 112, 116, 105, 111, 110, 32, 45, 45, 32, 39]⟩ : ByteArray)) ++ a1_0).size + 1 ≤ 9223372036854775807 then (some (((a0 ++ (⟨#[58, 32, 105, 110, 118, 97, 108, 105, 100, 32, 111, 112, 116, 105, 111, 110, 32, 45, 45, 32, 39]⟩ : ByteArray)) ++ a1_0) ++ (⟨#[39]⟩ : ByteArray))) else (none)) else (none)) else (none))) = some r := h
  clear h
  by_cases c3 : a1_1 = true
  · subst c3
    have H1 : (if a0.size + 34 ≤ 9223372036854775807 then (if (a0 ++ (⟨#[58, 32, 111, 112, 116, 105, 111, 110, 32, 114, 101, 113, 117, 105, 114, 101, 115, 32, 97, 110, 32, 97, 114, 103, 117, 109, 101, 110, 116, 32, 45, 45, 32, 39]⟩ : ByteArray)).size + a1_0.size ≤ 9223372036854775807 then (if ((a0 ++ (⟨#[58, 32, 111, 112, 116, 105, 111, 110, 32, 114, 101, 113, 117, 105, 114, 101, 115, 32, 97, 110, 32, 97, 114, 103, 117, 109, 101, 110, 116, 32, 45, 45, 32, 39]⟩ : ByteArray)) ++ a1_0).size + 1 ≤ 9223372036854775807 then (some (((a0 ++ (⟨#[58, 32, 111, 112, 116, 105, 111, 110, 32, 114, 101, 113, 117, 105, 114, 101, 115, 32, 97, 110, 32, 97, 114, 103, 117, 109, 101, 110, 116, 32, 45, 45, 32, 39]⟩ : ByteArray)) ++ a1_0) ++ (⟨#[39]⟩ : ByteArray))) else (none)) else (none)) else (none)) = some r := by rw [if_pos rfl] at H; exact H
    clear H
    have H := H1
    clear H1
    by_cases c4 : a0.size + 34 ≤ 9223372036854775807
    · rw [if_pos c4] at H
      have c4b0 := eq_true c4
      have c4b1 : decide (a0.size + 34 ≤ 9223372036854775807) = true := decide_eq_true c4
      try have c4b2 : (9223372036854775807 < a0.size + 34) = False := eq_false (Nat.not_lt.2 c4)
      have c4n2 : (9223372036854775807 < a0.size + 34) = False := eq_false (Nat.not_lt.2 (by have h_ := c4; (try simp only [ByteArray.size_append] at h_); first | exact h_ | simpa using h_ | omega))
      by_cases c5 : (a0 ++ (⟨#[58, 32, 111, 112, 116, 105, 111, 110, 32, 114, 101, 113, 117, 105, 114, 101, 115, 32, 97, 110, 32, 97, 114, 103, 117, 109, 101, 110, 116, 32, 45, 45, 32, 39]⟩ : ByteArray)).size + a1_0.size ≤ 9223372036854775807
      · rw [if_pos c5] at H
        have c5b0 := eq_true c5
        have c5b1 : decide ((a0 ++ (⟨#[58, 32, 111, 112, 116, 105, 111, 110, 32, 114, 101, 113, 117, 105, 114, 101, 115, 32, 97, 110, 32, 97, 114, 103, 117, 109, 101, 110, 116, 32, 45, 45, 32, 39]⟩ : ByteArray)).size + a1_0.size ≤ 9223372036854775807) = true := decide_eq_true c5
        try have c5b2 : (9223372036854775807 < (a0 ++ (⟨#[58, 32, 111, 112, 116, 105, 111, 110, 32, 114, 101, 113, 117, 105, 114, 101, 115, 32, 97, 110, 32, 97, 114, 103, 117, 109, 101, 110, 116, 32, 45, 45, 32, 39]⟩ : ByteArray)).size + a1_0.size) = False := eq_false (Nat.not_lt.2 c5)
        have c5n2 : (9223372036854775807 < a0.size + 34 + a1_0.size) = False := eq_false (Nat.not_lt.2 (by have h_ := c5; (try simp only [ByteArray.size_append] at h_); first | exact h_ | simpa using h_ | omega))
        by_cases c6 : ((a0 ++ (⟨#[58, 32, 111, 112, 116, 105, 111, 110, 32, 114, 101, 113, 117, 105, 114, 101, 115, 32, 97, 110, 32, 97, 114, 103, 117, 109, 101, 110, 116, 32, 45, 45, 32, 39]⟩ : ByteArray)) ++ a1_0).size + 1 ≤ 9223372036854775807
        · rw [if_pos c6] at H
          have c6b0 := eq_true c6
          have c6b1 : decide (((a0 ++ (⟨#[58, 32, 111, 112, 116, 105, 111, 110, 32, 114, 101, 113, 117, 105, 114, 101, 115, 32, 97, 110, 32, 97, 114, 103, 117, 109, 101, 110, 116, 32, 45, 45, 32, 39]⟩ : ByteArray)) ++ a1_0).size + 1 ≤ 9223372036854775807) = true := decide_eq_true c6
          try have c6b2 : (9223372036854775807 < ((a0 ++ (⟨#[58, 32, 111, 112, 116, 105, 111, 110, 32, 114, 101, 113, 117, 105, 114, 101, 115, 32, 97, 110, 32, 97, 114, 103, 117, 109, 101, 110, 116, 32, 45, 45, 32, 39]⟩ : ByteArray)) ++ a1_0).size + 1) = False := eq_false (Nat.not_lt.2 c6)
          have c6n2 : (9223372036854775807 < a0.size + 34 + a1_0.size + 1) = False := eq_false (Nat.not_lt.2 (by have h_ := c6; (try simp only [ByteArray.size_append] at h_); first | exact h_ | simpa using h_ | omega))
          obtain rfl := Option.some.inj H
          go_enter Try.func25, Try.ntmps25
          go_wp2_with (first | ((with_reducible refine gate_dst (N := 3) rfl ?_); refine box_event ?hg (N := 3) ?hd (cs := #[.string a1_0, .bool true]) (t := 25) ?hr ?_; (case hd => rfl); (case hg => rfl); (case hr => first | (go_simp; done) | (go_simp; rfl)); intro gb307 hg w7 hbox hb; have n0_ := Aside0.mk (below_step (by repeat (first | (with_reducible first | exact HB.out | apply below_alloc | apply pw_below_drewN | apply below_drew1) | exact HB.out)) hb); have n1_ := Aside0.mk (hbox); have n2_ := Aside0.mk ((by rw [hg]; exact (below_size (by repeat (first | (with_reducible first | exact HB.out | apply below_alloc | apply pw_below_drewN | apply below_drew1) | exact HB.out))) : w.heap.size ≤ gb307)); have n3_ := Aside0.mk ((by rw [hg]; exact (below_size (by repeat (first | (with_reducible first | exact HB.out | apply below_alloc | apply pw_below_drewN | apply below_drew1) | exact HB.out))) : w.heap.size ≤ gb307)); clear HB; have HB := n0_; have BK307 := n1_; have GW307 := n2_; have GE307 := n3_; clear n0_ n1_ n2_ n3_; clear hb hbox hg; have hcz8_0 : w7.cell? ⟨gb307, 0, none⟩ = some (.string a1_0) := (blk_cell BK307.out 0).trans rfl; have hcz8_1 : w7.cell? ⟨gb307, 1, none⟩ = some (.bool true) := (blk_cell BK307.out 1).trans rfl; have hfz8_0 := blk_frozen BK307.out 0; have hfz8_1 := blk_frozen BK307.out 1))
          go_ret
          exact ⟨by first | rfl | (simp [errW_none, errW_some] <;> rfl) | (simp [*, errW_none, errW_some] <;> rfl), by repeat (first | (with_reducible first | exact HB.out | apply below_alloc | apply pw_below_drewN | apply below_drew1 | refine below_set ?_ GE307.out) | exact HB.out)⟩
        · rw [if_neg c6] at H
          exact absurd H (by simp)
      · rw [if_neg c5] at H
        exact absurd H (by simp)
    · rw [if_neg c4] at H
      exact absurd H (by simp)
  · replace c3 := Bool.eq_false_iff.mpr c3
    subst c3
    have H1 : (if a0.size + 21 ≤ 9223372036854775807 then (if (a0 ++ (⟨#[58, 32, 105, 110, 118, 97, 108, 105, 100, 32, 111, 112, 116, 105, 111, 110, 32, 45, 45, 32, 39]⟩ : ByteArray)).size + a1_0.size ≤ 9223372036854775807 then (if ((a0 ++ (⟨#[58, 32, 105, 110, 118, 97, 108, 105, 100, 32, 111, 112, 116, 105, 111, 110, 32, 45, 45, 32, 39]⟩ : ByteArray)) ++ a1_0).size + 1 ≤ 9223372036854775807 then (some (((a0 ++ (⟨#[58, 32, 105, 110, 118, 97, 108, 105, 100, 32, 111, 112, 116, 105, 111, 110, 32, 45, 45, 32, 39]⟩ : ByteArray)) ++ a1_0) ++ (⟨#[39]⟩ : ByteArray))) else (none)) else (none)) else (none)) = some r := by rw [if_neg (show ¬ (false = true) by decide)] at H; exact H
    clear H
    have H := H1
    clear H1
    by_cases c9 : a0.size + 21 ≤ 9223372036854775807
    · rw [if_pos c9] at H
      have c9b0 := eq_true c9
      have c9b1 : decide (a0.size + 21 ≤ 9223372036854775807) = true := decide_eq_true c9
      try have c9b2 : (9223372036854775807 < a0.size + 21) = False := eq_false (Nat.not_lt.2 c9)
      have c9n2 : (9223372036854775807 < a0.size + 21) = False := eq_false (Nat.not_lt.2 (by have h_ := c9; (try simp only [ByteArray.size_append] at h_); first | exact h_ | simpa using h_ | omega))
      by_cases c10 : (a0 ++ (⟨#[58, 32, 105, 110, 118, 97, 108, 105, 100, 32, 111, 112, 116, 105, 111, 110, 32, 45, 45, 32, 39]⟩ : ByteArray)).size + a1_0.size ≤ 9223372036854775807
      · rw [if_pos c10] at H
        have c10b0 := eq_true c10
        have c10b1 : decide ((a0 ++ (⟨#[58, 32, 105, 110, 118, 97, 108, 105, 100, 32, 111, 112, 116, 105, 111, 110, 32, 45, 45, 32, 39]⟩ : ByteArray)).size + a1_0.size ≤ 9223372036854775807) = true := decide_eq_true c10
        try have c10b2 : (9223372036854775807 < (a0 ++ (⟨#[58, 32, 105, 110, 118, 97, 108, 105, 100, 32, 111, 112, 116, 105, 111, 110, 32, 45, 45, 32, 39]⟩ : ByteArray)).size + a1_0.size) = False := eq_false (Nat.not_lt.2 c10)
        have c10n2 : (9223372036854775807 < a0.size + 21 + a1_0.size) = False := eq_false (Nat.not_lt.2 (by have h_ := c10; (try simp only [ByteArray.size_append] at h_); first | exact h_ | simpa using h_ | omega))
        by_cases c11 : ((a0 ++ (⟨#[58, 32, 105, 110, 118, 97, 108, 105, 100, 32, 111, 112, 116, 105, 111, 110, 32, 45, 45, 32, 39]⟩ : ByteArray)) ++ a1_0).size + 1 ≤ 9223372036854775807
        · rw [if_pos c11] at H
          have c11b0 := eq_true c11
          have c11b1 : decide (((a0 ++ (⟨#[58, 32, 105, 110, 118, 97, 108, 105, 100, 32, 111, 112, 116, 105, 111, 110, 32, 45, 45, 32, 39]⟩ : ByteArray)) ++ a1_0).size + 1 ≤ 9223372036854775807) = true := decide_eq_true c11
          try have c11b2 : (9223372036854775807 < ((a0 ++ (⟨#[58, 32, 105, 110, 118, 97, 108, 105, 100, 32, 111, 112, 116, 105, 111, 110, 32, 45, 45, 32, 39]⟩ : ByteArray)) ++ a1_0).size + 1) = False := eq_false (Nat.not_lt.2 c11)
          have c11n2 : (9223372036854775807 < a0.size + 21 + a1_0.size + 1) = False := eq_false (Nat.not_lt.2 (by have h_ := c11; (try simp only [ByteArray.size_append] at h_); first | exact h_ | simpa using h_ | omega))
          obtain rfl := Option.some.inj H
          go_enter Try.func25, Try.ntmps25
          go_wp2_with (first | ((with_reducible refine gate_dst (N := 3) rfl ?_); refine box_event ?hg (N := 3) ?hd (cs := #[.string a1_0, .bool false]) (t := 25) ?hr ?_; (case hd => rfl); (case hg => rfl); (case hr => first | (go_simp; done) | (go_simp; rfl)); intro gb307 hg w12 hbox hb; have n0_ := Aside0.mk (below_step (by repeat (first | (with_reducible first | exact HB.out | apply below_alloc | apply pw_below_drewN | apply below_drew1) | exact HB.out)) hb); have n1_ := Aside0.mk (hbox); have n2_ := Aside0.mk ((by rw [hg]; exact (below_size (by repeat (first | (with_reducible first | exact HB.out | apply below_alloc | apply pw_below_drewN | apply below_drew1) | exact HB.out))) : w.heap.size ≤ gb307)); have n3_ := Aside0.mk ((by rw [hg]; exact (below_size (by repeat (first | (with_reducible first | exact HB.out | apply below_alloc | apply pw_below_drewN | apply below_drew1) | exact HB.out))) : w.heap.size ≤ gb307)); clear HB; have HB := n0_; have BK307 := n1_; have GW307 := n2_; have GE307 := n3_; clear n0_ n1_ n2_ n3_; clear hb hbox hg; have hcz13_0 : w12.cell? ⟨gb307, 0, none⟩ = some (.string a1_0) := (blk_cell BK307.out 0).trans rfl; have hcz13_1 : w12.cell? ⟨gb307, 1, none⟩ = some (.bool false) := (blk_cell BK307.out 1).trans rfl; have hfz13_0 := blk_frozen BK307.out 0; have hfz13_1 := blk_frozen BK307.out 1))
          go_ret
          exact ⟨by first | rfl | (simp [errW_none, errW_some] <;> rfl) | (simp [*, errW_none, errW_some] <;> rfl), by repeat (first | (with_reducible first | exact HB.out | apply below_alloc | apply pw_below_drewN | apply below_drew1 | refine below_set ?_ GE307.out) | exact HB.out)⟩
        · rw [if_neg c11] at H
          exact absurd H (by simp)
      · rw [if_neg c10] at H
        exact absurd H (by simp)
    · rw [if_neg c9] at H
      exact absurd H (by simp)

end Go.Proofs.Ytcmicndmaaaknaa.G
