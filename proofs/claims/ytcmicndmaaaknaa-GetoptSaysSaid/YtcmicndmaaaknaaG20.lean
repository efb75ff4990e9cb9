-- Made by a program of this session out of the translation; Lean checks it.
import Derived.Test.YtcmicndmaaaknaaG0
import Derived.Test.YtcmicndmaaaknaaHContains
namespace Go.Proofs.Ytcmicndmaaaknaa.G
open Go.RowKit Go.Proofs.YtcmicndmaaaknaaW.PrintWords Go.Proofs.YtcmicndmaaaknaaW.PrintLast Go.Proofs.YtcmicndmaaaknaaW.PrintMore
attribute [local go_sem] max2_int min2_int max_two min_two max_three min_three max_four min_four   -- for this text's walks alone
set_option linter.unusedVariables false
set_option linter.unusedSimpArgs false

/-! ### getopt_Winner: function 20 -/
def getopt_Winner.l0 : Nat → List (S67) → ByteArray → Int → Option (ByteArray)
  | 0, _, _, _ => none
  | k + 1, x0, x1, x5 => if x5 ≥ 0 then (if 0 ≤ x5 then (if x5 < (x0.length : Int) then (if (((rd_T67 x0 x5).f0).size : Int) = 1 then ((strings_Contains.f x1 ((rd_T67 x0 x5).f0)).bind fun t287 => (if t287 = true then (some ((rd_T67 x0 x5).f0)) else (getopt_Winner.l0 k x0 x1 (wrap64 (x5 - 1))))) else (getopt_Winner.l0 k x0 x1 (wrap64 (x5 - 1)))) else (none)) else (none)) else (some (⟨#[]⟩ : ByteArray))
def getopt_Winner.f (k : Nat) (l0 : List (S67)) (a1 : ByteArray) : Option (ByteArray) := getopt_Winner.l0 k l0 a1 (wrap64 ((l0.length : Int) - 1))
theorem getopt_Winner.mono_l : ∀ k, (∀ y0 y1 y2, LeO (getopt_Winner.l0 k y0 y1 y2) (getopt_Winner.l0 (k + 1) y0 y1 y2))
  | 0 => fun _ _ _ r h => by simp [getopt_Winner.l0] at h
  | k + 1 => by
    have ih0 := getopt_Winner.mono_l k
    · intro y0 y1 y2
      unfold getopt_Winner.l0
      repeat' first
      | (with_reducible exact ih0 _ _ _)
      | (with_reducible exact LeO.refl _)
      | (with_reducible exact LeO.none _)
      | (with_reducible refine LeO.ite ?_ ?_)
      | (with_reducible refine LeO.bind ?_ (fun _ => ?_))
      | exact ih0 _ _ _
      | exact LeO.none _
      | refine LeO.ite ?_ ?_
      | refine LeO.bind ?_ (fun _ => ?_)
theorem getopt_Winner.mono : ∀ a0 a1 k, LeO (getopt_Winner.f k a0 a1) (getopt_Winner.f (k + 1) a0 a1) := by
  intro a0 a1 k
  have ih0 := getopt_Winner.mono_l k
  unfold getopt_Winner.f
  repeat' first
      | (with_reducible exact ih0 _ _ _)
      | (with_reducible exact LeO.refl _)
      | (with_reducible exact LeO.none _)
      | (with_reducible refine LeO.ite ?_ ?_)
      | (with_reducible refine LeO.bind ?_ (fun _ => ?_))
      | exact ih0 _ _ _
      | exact LeO.none _
      | refine LeO.ite ?_ ?_
      | refine LeO.bind ?_ (fun _ => ?_)
set_option maxHeartbeats 8000000 in
set_option maxRecDepth 100000 in
theorem getopt_Winner.calls (k : Nat) (A0 : Option Addr) (c0 : Nat) (l0 : List (S67)) (a1 : ByteArray) (r : ByteArray) (w : World) (hr0 : Kd.C k67 w A0 l0.length l0) (hc0 : l0.length ≤ c0) (h : getopt_Winner.f k l0 a1 = some r) :
    Calls Try.prog 20 #[.slice A0 l0.length c0, .string a1] w fun e w' => e = .returned (.string r) ∧ Drawn0 w w' := by
  have HR0 := Aside0.mk hr0
  have HC0 := Aside0.mk hc0
  clear hr0 hc0
  have H : (getopt_Winner.l0 k l0 a1 (wrap64 ((l0.length : Int) - 1))) = some r := h
  clear h
  have H' := Aside0.mk H
  clear H
  go_enter Try.func20, Try.ntmps20
  go_wp2
  go_loopg [5] k (fun kq v5 w' => ∃ (x5_1 : Int), v5 = .int .i64 x5_1 ∧ Aside0 (getopt_Winner.l0 kq l0 a1 x5_1 = some r) ∧ Aside0 (kq ≤ k) ∧ Drawn0 w w')
  case atStart => exact ⟨(wrap64 ((l0.length : Int) - 1)), (by first | rfl | (simp; done) | (simp [*]; done)), H', ⟨Nat.le_refl _⟩, by repeat (first | exact Drawn0.refl _ | apply Drawn0.step)⟩
  case round =>
    clear H'
    try clear c2
    try clear p2
    obtain ⟨x5_1, rfl, HA, HK1, ⟨m1, rfl⟩⟩ := hrel
    cases gk with
    | zero => exact absurd HA.out (by simp [getopt_Winner.l0])
    | succ k1 =>
      have H := HA.out
      clear HA
      simp only [getopt_Winner.l0] at H
      by_cases c3 : x5_1 ≥ 0
      · rw [if_pos c3] at H
        have c3b0 : decide (0 ≤ x5_1) = true := decide_eq_true c3
        clear c3
        by_cases c4 : 0 ≤ x5_1
        · rw [if_pos c4] at H
          have c4b0 : decide (0 ≤ x5_1) = true := decide_eq_true c4
          clear c4
          by_cases c5 : x5_1 < (l0.length : Int)
          · rw [if_pos c5] at H
            have c5b0 : decide (x5_1 < (l0.length : Int)) = true := decide_eq_true c5
            clear c5
            by_cases c6 : (((rd_T67 l0 x5_1).f0).size : Int) = 1
            · rw [if_pos c6] at H
              have c6b0 : ((((rd_T67 l0 x5_1).f0).size : Int) == 1) = true := beq_iff_eq.mpr c6
              have c6b1 : ((((rd_T67 l0 x5_1).f0).size : Int) != 1) = false := bne_eq_false_iff_eq.mpr c6
              clear c6
              replace H := Option.bind_eq_some_iff.mp H
              obtain ⟨t287, A70, H⟩ := H
              replace H : (if t287 = true then (some ((rd_T67 l0 x5_1).f0)) else (getopt_Winner.l0 k1 l0 a1 (wrap64 (x5_1 - 1)))) = some r := H
              have A7 := Aside0.mk A70
              clear A70
              by_cases c8 : t287 = true
              · subst c8
                have H1 : (some ((rd_T67 l0 x5_1).f0)) = some r := by rw [if_pos rfl] at H; exact H
                clear H
                have H := H1
                clear H1
                obtain rfl := Option.some.inj H
                have p286 : 0 ≤ (x5_1 : Int) := of_decide_eq_true (by first | (with_reducible assumption) | assumption)
                have q286 : x5_1 < (l0.length : Int) := of_decide_eq_true (by first | (with_reducible assumption) | assumption)
                obtain ⟨ad286, e286, hx286_0, hx286_1⟩ := at_T67 HR0.out x5_1 p286 q286
                cases e286
                replace p286 := eq_true p286
                replace q286 := eq_true q286
                go_wp2_with (first | (go_at_call 32; (with_reducible refine (strings_Contains.calls a1 ((rd_T67 l0 x5_1).f0) true _ A7.out).mono ?_); rintro e w' ⟨rfl, ⟨nd, rfl⟩⟩))
                go_ret
                exact ⟨by first | rfl | (simp; done) | (simp [*]; done), by repeat (first | exact Drawn0.refl _ | apply Drawn0.step)⟩
              · replace c8 := Bool.eq_false_iff.mpr c8
                subst c8
                have H1 : (getopt_Winner.l0 k1 l0 a1 (wrap64 (x5_1 - 1))) = some r := by rw [if_neg (show ¬ (false = true) by decide)] at H; exact H
                clear H
                have H := H1
                clear H1
                have H' := Aside0.mk H
                clear H
                have p286 : 0 ≤ (x5_1 : Int) := of_decide_eq_true (by first | (with_reducible assumption) | assumption)
                have q286 : x5_1 < (l0.length : Int) := of_decide_eq_true (by first | (with_reducible assumption) | assumption)
                obtain ⟨ad286, e286, hx286_0, hx286_1⟩ := at_T67 HR0.out x5_1 p286 q286
                cases e286
                replace p286 := eq_true p286
                replace q286 := eq_true q286
                go_wp2_with (first | (go_at_call 32; (with_reducible refine (strings_Contains.calls a1 ((rd_T67 l0 x5_1).f0) false _ A7.out).mono ?_); rintro e w' ⟨rfl, ⟨nd, rfl⟩⟩))
                go_roundg k1
                case measure => have := HK1.out; omega
                case rel => exact ⟨(wrap64 (x5_1 - 1)), (by first | rfl | (simp; done) | (simp [*]; done)), H', ⟨by have := HK1.out; omega⟩, by repeat (first | exact Drawn0.refl _ | apply Drawn0.step)⟩
            · rw [if_neg c6] at H
              have c6b0 : ((((rd_T67 l0 x5_1).f0).size : Int) == 1) = false := beq_eq_false_iff_ne.mpr c6
              have c6b1 : ((((rd_T67 l0 x5_1).f0).size : Int) != 1) = true := bne_iff_ne.mpr c6
              have H' := Aside0.mk H
              clear H
              have p286 : 0 ≤ (x5_1 : Int) := of_decide_eq_true (by first | (with_reducible assumption) | assumption)
              have q286 : x5_1 < (l0.length : Int) := of_decide_eq_true (by first | (with_reducible assumption) | assumption)
              obtain ⟨ad286, e286, hx286_0, hx286_1⟩ := at_T67 HR0.out x5_1 p286 q286
              cases e286
              replace p286 := eq_true p286
              replace q286 := eq_true q286
              go_wp2
              go_roundg k1
              case measure => have := HK1.out; omega
              case rel => exact ⟨(wrap64 (x5_1 - 1)), (by first | rfl | (simp; done) | (simp [*]; done)), H', ⟨by have := HK1.out; omega⟩, by repeat (first | exact Drawn0.refl _ | apply Drawn0.step)⟩
          · rw [if_neg c5] at H
            exact absurd H (by simp)
        · rw [if_neg c4] at H
          exact absurd H (by simp)
      · rw [if_neg c3] at H
        have c3b0 : decide (0 ≤ x5_1) = false := decide_eq_false c3
        clear c3
        obtain rfl := Option.some.inj H
        go_wp2
        go_ret
        exact ⟨by first | rfl | (simp; done) | (simp [*]; done), by repeat (first | exact Drawn0.refl _ | apply Drawn0.step)⟩

end Go.Proofs.Ytcmicndmaaaknaa.G
