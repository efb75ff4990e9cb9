-- Made by a program of this session out of the translation; Lean checks it.
import Derived.Test.YtcmicndmaaaknaaG0
import Derived.Test.YtcmicndmaaaknaaG4
import Derived.Test.YtcmicndmaaaknaaG5
import Derived.Test.YtcmicndmaaaknaaG6
namespace Go.Proofs.Ytcmicndmaaaknaa.G
open Go.RowKit Go.Proofs.YtcmicndmaaaknaaW.PrintWords Go.Proofs.YtcmicndmaaaknaaW.PrintLast Go.Proofs.YtcmicndmaaaknaaW.PrintMore
attribute [local go_sem] max2_int min2_int max_two min_two max_three min_three max_four min_four   -- for this text's walks alone
set_option linter.unusedVariables false
set_option linter.unusedSimpArgs false

/-! ### tinselref09_Usage: function 23 -/
mutual
def tinselref09_Usage.l0 : Nat → ByteArray → ByteArray → ByteArray → Int → Option (ByteArray × Int)
  | 0, _, _, _, _ => none
  | k + 1, x4, x5, x6, x7 => if x7 < (x6.size : Int) then (if 0 ≤ x7 then (if (bt x6 x7) = 58 then (tinselref09_Usage.l0 k x4 x5 x6 (wrap64 (x7 + 1))) else (if (wrap64 (x7 + 1)) < (x6.size : Int) then (if 0 ≤ (wrap64 (x7 + 1)) then (tinselref09_Usage.j1 k x4 x5 x6 x7 ((bt x6 (wrap64 (x7 + 1))) == 58)) else (none)) else (tinselref09_Usage.j1 k x4 x5 x6 x7 false))) else (none)) else (if x4.toList = ([] : List UInt8) then (if x5.toList = ([] : List UInt8) then (some ((⟨#[]⟩ : ByteArray), 0)) else (if 1 ≤ (x5.size : Int) then (some (x5.extract 1 x5.size, 0)) else (none))) else (if 2 + x4.size ≤ 9223372036854775807 then (if ((⟨#[91, 45]⟩ : ByteArray) ++ x4).size + 1 ≤ 9223372036854775807 then (if (((⟨#[91, 45]⟩ : ByteArray) ++ x4) ++ (⟨#[93]⟩ : ByteArray)).size + x5.size ≤ 9223372036854775807 then (some ((((⟨#[91, 45]⟩ : ByteArray) ++ x4) ++ (⟨#[93]⟩ : ByteArray)) ++ x5, 0)) else (none)) else (none)) else (none)))
def tinselref09_Usage.j1 : Nat → ByteArray → ByteArray → ByteArray → Int → Bool → Option (ByteArray × Int)
  | 0, _, _, _, _, _ => none
  | k + 1, x4, x5, x6, x7, x34 => if x34 = true then (if 0 ≤ x7 then (if x7 < (x6.size : Int) then ((tinselref09_one.f (bt x6 x7)).bind fun t304 => (if 3 + t304.size ≤ 9223372036854775807 then (if ((⟨#[32, 91, 45]⟩ : ByteArray) ++ t304).size + 5 ≤ 9223372036854775807 then (if x5.size + (((⟨#[32, 91, 45]⟩ : ByteArray) ++ t304) ++ (⟨#[32, 97, 114, 103, 93]⟩ : ByteArray)).size ≤ 9223372036854775807 then (tinselref09_Usage.l0 k x4 (x5 ++ (((⟨#[32, 91, 45]⟩ : ByteArray) ++ t304) ++ (⟨#[32, 97, 114, 103, 93]⟩ : ByteArray))) x6 (wrap64 (x7 + 1))) else (none)) else (none)) else (none))) else (none)) else (none)) else (if 0 ≤ x7 then (if x7 < (x6.size : Int) then ((tinselref09_one.f (bt x6 x7)).bind fun t305 => (if x4.size + t305.size ≤ 9223372036854775807 then (tinselref09_Usage.l0 k (x4 ++ t305) x5 x6 (wrap64 (x7 + 1))) else (none))) else (none)) else (none))
end
def tinselref09_Usage.f (k : Nat) (a0 : ByteArray) : Option (ByteArray × Int) := (tinselref09_Spec.f k a0).bind fun t302 => (if t302 = true then ((tinselref09_bare.f a0).bind fun t303 => (tinselref09_Usage.l0 k (⟨#[]⟩ : ByteArray) (⟨#[]⟩ : ByteArray) t303 0)) else (some ((⟨#[]⟩ : ByteArray), 22)))
theorem tinselref09_Usage.mono_l : ∀ k, (∀ y0 y1 y2 y3, LeO (tinselref09_Usage.l0 k y0 y1 y2 y3) (tinselref09_Usage.l0 (k + 1) y0 y1 y2 y3)) ∧ (∀ y0 y1 y2 y3 y4, LeO (tinselref09_Usage.j1 k y0 y1 y2 y3 y4) (tinselref09_Usage.j1 (k + 1) y0 y1 y2 y3 y4))
  | 0 => ⟨fun _ _ _ _ r h => by simp [tinselref09_Usage.l0] at h, fun _ _ _ _ _ r h => by simp [tinselref09_Usage.j1] at h⟩
  | k + 1 => by
    obtain ⟨ih0, ih1⟩ := tinselref09_Usage.mono_l k
    refine ⟨?_, ?_⟩
    · intro y0 y1 y2 y3
      unfold tinselref09_Usage.l0
      repeat' first
      | (with_reducible exact ih0 _ _ _ _)
      | (with_reducible exact ih1 _ _ _ _ _)
      | (with_reducible exact tinselref09_Spec.mono _ _)
      | (with_reducible exact LeO.refl _)
      | (with_reducible exact LeO.none _)
      | (with_reducible refine LeO.ite ?_ ?_)
      | (with_reducible refine LeO.bind ?_ (fun _ => ?_))
      | exact ih0 _ _ _ _
      | exact ih1 _ _ _ _ _
      | exact tinselref09_Spec.mono _ _
      | exact LeO.none _
      | refine LeO.ite ?_ ?_
      | refine LeO.bind ?_ (fun _ => ?_)
    · intro y0 y1 y2 y3 y4
      unfold tinselref09_Usage.j1
      repeat' first
      | (with_reducible exact ih0 _ _ _ _)
      | (with_reducible exact ih1 _ _ _ _ _)
      | (with_reducible exact tinselref09_Spec.mono _ _)
      | (with_reducible exact LeO.refl _)
      | (with_reducible exact LeO.none _)
      | (with_reducible refine LeO.ite ?_ ?_)
      | (with_reducible refine LeO.bind ?_ (fun _ => ?_))
      | exact ih0 _ _ _ _
      | exact ih1 _ _ _ _ _
      | exact tinselref09_Spec.mono _ _
      | exact LeO.none _
      | refine LeO.ite ?_ ?_
      | refine LeO.bind ?_ (fun _ => ?_)
theorem tinselref09_Usage.mono : ∀ a0 k, LeO (tinselref09_Usage.f k a0) (tinselref09_Usage.f (k + 1) a0) := by
  intro a0 k
  obtain ⟨ih0, ih1⟩ := tinselref09_Usage.mono_l k
  unfold tinselref09_Usage.f
  repeat' first
      | (with_reducible exact ih0 _ _ _ _)
      | (with_reducible exact ih1 _ _ _ _ _)
      | (with_reducible exact tinselref09_Spec.mono _ _)
      | (with_reducible exact LeO.refl _)
      | (with_reducible exact LeO.none _)
      | (with_reducible refine LeO.ite ?_ ?_)
      | (with_reducible refine LeO.bind ?_ (fun _ => ?_))
      | exact ih0 _ _ _ _
      | exact ih1 _ _ _ _ _
      | exact tinselref09_Spec.mono _ _
      | exact LeO.none _
      | refine LeO.ite ?_ ?_
      | refine LeO.bind ?_ (fun _ => ?_)
set_option maxHeartbeats 8000000 in
set_option maxRecDepth 100000 in
theorem tinselref09_Usage.calls (k : Nat) (a0 : ByteArray) (r1 : ByteArray) (r2 : Int) (w : World) (h : tinselref09_Usage.f k a0 = some (r1, r2)) :
    Calls Try.prog 23 #[.string a0] w fun e w' => e = .returned (.tuple #[.string r1, .int .i64 r2]) ∧ Below w.heap.size w w' := by
  have HB := Aside0.mk (Below.refl w.heap.size w)
  have H : ((tinselref09_Spec.f k a0).bind fun t302 => (if t302 = true then ((tinselref09_bare.f a0).bind fun t303 => (tinselref09_Usage.l0 k (⟨#[]⟩ : ByteArray) (⟨#[]⟩ : ByteArray) t303 0)) else (some ((⟨#[]⟩ : ByteArray), 22)))) = some (r1, r2) := h
  clear h
  replace H := Option.bind_eq_some_iff.mp H
  obtain ⟨t302, A20, H⟩ := H
  replace H : (if t302 = true then ((tinselref09_bare.f a0).bind fun t303 => (tinselref09_Usage.l0 k (⟨#[]⟩ : ByteArray) (⟨#[]⟩ : ByteArray) t303 0)) else (some ((⟨#[]⟩ : ByteArray), 22))) = some (r1, r2) := H
  have A2 := Aside0.mk A20
  clear A20
  by_cases c3 : t302 = true
  · subst c3
    have H1 : ((tinselref09_bare.f a0).bind fun t303 => (tinselref09_Usage.l0 k (⟨#[]⟩ : ByteArray) (⟨#[]⟩ : ByteArray) t303 0)) = some (r1, r2) := by rw [if_pos rfl] at H; exact H
    clear H
    have H := H1
    clear H1
    replace H := Option.bind_eq_some_iff.mp H
    obtain ⟨t303, A40, H⟩ := H
    replace H : (tinselref09_Usage.l0 k (⟨#[]⟩ : ByteArray) (⟨#[]⟩ : ByteArray) t303 0) = some (r1, r2) := H
    have A4 := Aside0.mk A40
    clear A40
    have H' := Aside0.mk H
    clear H
    go_enter Try.func23, Try.ntmps23
    go_wp2_with (first | ((with_reducible refine gate_callee (f := 29) rfl ?_); refine goesL_ (some 9) rfl rfl Try.func29 (by kernel_rfl) rfl #[.string a0] rfl (by (try simp only [List.map_toArray, List.map_cons, List.map_nil]); first | done | rfl | (simp only [List.length_drop, List.length_take]; rfl)) ?_; (with_reducible refine (tinselref09_Spec.calls k a0 true _ A2.out).mono ?_); rintro e w' ⟨rfl, ⟨nd, rfl⟩⟩; refine ⟨_, rfl, ?_⟩) | ((with_reducible refine gate_callee (f := 35) rfl ?_); refine goesL_ (some 12) rfl rfl Try.func35 (by kernel_rfl) rfl #[.string a0] rfl (by (try simp only [List.map_toArray, List.map_cons, List.map_nil]); first | done | rfl | (simp only [List.length_drop, List.length_take]; rfl)) ?_; (with_reducible refine (tinselref09_bare.calls a0 t303 _ A4.out).mono ?_); rintro e w' ⟨rfl, ⟨nd, rfl⟩⟩; refine ⟨_, rfl, ?_⟩))
    go_loopg [4, 5, 7] k (fun kq v4 v5 v7 w' => ∃ (x4_1 : ByteArray) (x5_1 : ByteArray) (x7_1 : Int), v4 = .string x4_1 ∧ v5 = .string x5_1 ∧ v7 = .int .i64 x7_1 ∧ Aside0 (tinselref09_Usage.l0 kq x4_1 x5_1 t303 x7_1 = some (r1, r2)) ∧ Aside0 (kq ≤ k) ∧ Aside0 (Below w.heap.size w w'))
    case atStart => exact ⟨((⟨#[]⟩ : ByteArray)), ((⟨#[]⟩ : ByteArray)), (0), (by first | rfl | (simp; done) | (simp [*]; done)), (by first | rfl | (simp; done) | (simp [*]; done)), (by first | rfl | (simp; done) | (simp [*]; done)), H', ⟨Nat.le_refl _⟩, ⟨by repeat (first | (with_reducible first | exact HB.out | apply below_alloc | apply pw_below_drewN | apply below_drew1) | exact HB.out)⟩⟩
    case round =>
      clear H'
      try clear c2
      try clear p2
      try clear c3
      obtain ⟨x4_1, x5_1, x7_1, rfl, rfl, rfl, HA, HK1, HB⟩ := hrel
      cases gk with
      | zero => exact absurd HA.out (by simp [tinselref09_Usage.l0])
      | succ k1 =>
        have H := HA.out
        clear HA
        simp only [tinselref09_Usage.l0] at H
        by_cases c5 : x7_1 < (t303.size : Int)
        · rw [if_pos c5] at H
          have c5b0 : decide (x7_1 < (t303.size : Int)) = true := decide_eq_true c5
          clear c5
          by_cases c6 : 0 ≤ x7_1
          · rw [if_pos c6] at H
            have c6b0 : decide (0 ≤ x7_1) = true := decide_eq_true c6
            clear c6
            by_cases c8 : (bt t303 x7_1) = 58
            · rw [if_pos c8] at H
              have c8b0 : ((bt t303 x7_1) == 58) = true := beq_iff_eq.mpr c8
              have c8b1 : ((bt t303 x7_1) != 58) = false := bne_eq_false_iff_eq.mpr c8
              clear c8
              have H' := Aside0.mk H
              clear H
              have p7 : 0 ≤ (x7_1 : Int) := of_decide_eq_true (by first | (with_reducible assumption) | assumption)
              have q7 : x7_1 < (t303.size : Int) := of_decide_eq_true (by first | (with_reducible assumption) | assumption)
              have hx7 := bt_at t303 x7_1
              replace p7 := eq_true p7
              replace q7 := eq_true q7
              go_wp2
              go_roundg k1
              case measure => have := HK1.out; omega
              case rel => exact ⟨(x4_1), (x5_1), (wrap64 (x7_1 + 1)), (by first | rfl | (simp; done) | (simp [*]; done)), (by first | rfl | (simp; done) | (simp [*]; done)), (by first | rfl | (simp; done) | (simp [*]; done)), H', ⟨by have := HK1.out; omega⟩, ⟨by repeat (first | (with_reducible first | exact HB.out | apply below_alloc | apply pw_below_drewN | apply below_drew1) | exact HB.out)⟩⟩
            · rw [if_neg c8] at H
              have c8b0 : ((bt t303 x7_1) == 58) = false := beq_eq_false_iff_ne.mpr c8
              have c8b1 : ((bt t303 x7_1) != 58) = true := bne_iff_ne.mpr c8
              have HC9 := Aside0.mk H
              clear H
              have p7 : 0 ≤ (x7_1 : Int) := of_decide_eq_true (by first | (with_reducible assumption) | assumption)
              have q7 : x7_1 < (t303.size : Int) := of_decide_eq_true (by first | (with_reducible assumption) | assumption)
              have hx7 := bt_at t303 x7_1
              replace p7 := eq_true p7
              replace q7 := eq_true q7
              go_upto_region 9 with (fail)
              go_cut [34] (fun v34 wc => ∃ (kq : Nat) (x34_8 : Bool), v34 = .bool x34_8 ∧ Aside0 (tinselref09_Usage.j1 kq x4_1 x5_1 t303 x7_1 x34_8 = some (r1, r2)) ∧ Aside0 (kq ≤ k1) ∧ Aside0 (Below w.heap.size w wc))
              case first =>
                have H := HC9.out
                clear HC9
                by_cases c10 : (wrap64 (x7_1 + 1)) < (t303.size : Int)
                · rw [if_pos c10] at H
                  have c10b0 : decide ((wrap64 (x7_1 + 1)) < (t303.size : Int)) = true := decide_eq_true c10
                  clear c10
                  (first | rw [c10b0] | (simp only [i64_w, i32_w]; rw [c10b0]) | skip)
                  obtain ⟨ji11, hji11⟩ : ∃ j_ : Int, (wrap64 (x7_1 + 1)) = j_ := ⟨_, rfl⟩
                  replace H : (if 0 ≤ (ji11) then (tinselref09_Usage.j1 k1 x4_1 x5_1 t303 x7_1 ((bt t303 (ji11)) == 58)) else (none)) = some (r1, r2) := by first | (rw [hji11] at H; exact H) | (simp only [hji11] at H ⊢; exact H)
                  (try rw [hji11] at c10b0)
                  have hji11w : (IntKind.i64.wrap (x7_1 + 1)) = ji11 := (i64_w _).trans hji11
                  by_cases c12 : 0 ≤ (ji11)
                  · rw [if_pos c12] at H
                    have c12b0 : decide (0 ≤ (ji11)) = true := decide_eq_true c12
                    clear c12
                    have H' := Aside0.mk H
                    clear H
                    have p13 : 0 ≤ ((ji11) : Int) := of_decide_eq_true (by first | (with_reducible assumption) | assumption)
                    have q13 : (ji11) < (t303.size : Int) := of_decide_eq_true (by first | (with_reducible assumption) | assumption)
                    have hx13 := bt_at t303 (ji11)
                    replace p13 := eq_true p13
                    replace q13 := eq_true q13
                    go_wp2
                    go_meet
                    case rel => exact ⟨_, (((bt t303 (ji11)) == 58)), (by first | rfl | (simp; done) | (simp only [← hji11] <;> (first | rfl | simp)) | (simp [*]; done)), H', ⟨by have := HK1.out; first | omega | exact Nat.le_refl _⟩, ⟨by repeat (first | (with_reducible first | exact HB.out | apply below_alloc | apply pw_below_drewN | apply below_drew1) | exact HB.out)⟩⟩
                  · rw [if_neg c12] at H
                    exact absurd H (by simp)
                · rw [if_neg c10] at H
                  have c10b0 : decide ((wrap64 (x7_1 + 1)) < (t303.size : Int)) = false := decide_eq_false c10
                  clear c10
                  (first | rw [c10b0] | (simp only [i64_w, i32_w]; rw [c10b0]) | skip)
                  have H' := Aside0.mk H
                  clear H
                  go_wp2
                  go_meet
                  case rel => exact ⟨_, (false), (by first | rfl | (simp; done) | (simp [*]; done)), H', ⟨by have := HK1.out; first | omega | exact Nat.le_refl _⟩, ⟨by repeat (first | (with_reducible first | exact HB.out | apply below_alloc | apply pw_below_drewN | apply below_drew1) | exact HB.out)⟩⟩
              case rest =>
                clear HC9
                try clear c1
                try clear p1
                try clear q1
                try clear hx1
                try clear c2
                try clear p2
                try clear c3
                try clear c5
                try clear c5b0
                try clear c6
                try clear c6b0
                try clear p6
                try clear p7
                try clear q7
                try clear hx7
                try clear c8
                try clear c8b0
                try clear c8b1
                try clear c10
                try clear c10b0
                try clear c12
                try clear c12b0
                try clear p13
                try clear q13
                try clear hx13
                try clear p13
                try clear p2
                try clear p7
                try clear q13
                try clear q7
                obtain ⟨kq, x34_8, rfl, HA, HJ8, HB⟩ := hcut
                cases kq with
                | zero => exact absurd HA.out (by simp [tinselref09_Usage.j1])
                | succ kj8 =>
                  have H := HA.out
                  clear HA
                  simp only [tinselref09_Usage.j1] at H
                  by_cases c14 : x34_8 = true
                  · subst c14
                    have H1 : (if 0 ≤ x7_1 then (if x7_1 < (t303.size : Int) then ((tinselref09_one.f (bt t303 x7_1)).bind fun t304 => (if 3 + t304.size ≤ 9223372036854775807 then (if ((⟨#[32, 91, 45]⟩ : ByteArray) ++ t304).size + 5 ≤ 9223372036854775807 then (if x5_1.size + (((⟨#[32, 91, 45]⟩ : ByteArray) ++ t304) ++ (⟨#[32, 97, 114, 103, 93]⟩ : ByteArray)).size ≤ 9223372036854775807 then (tinselref09_Usage.l0 kj8 x4_1 (x5_1 ++ (((⟨#[32, 91, 45]⟩ : ByteArray) ++ t304) ++ (⟨#[32, 97, 114, 103, 93]⟩ : ByteArray))) t303 (wrap64 (x7_1 + 1))) else (none)) else (none)) else (none))) else (none)) else (none)) = some (r1, r2) := by rw [if_pos rfl] at H; exact H
                    clear H
                    have H := H1
                    clear H1
                    by_cases c15 : 0 ≤ x7_1
                    · rw [if_pos c15] at H
                      have c15b0 : decide (0 ≤ x7_1) = true := decide_eq_true c15
                      clear c15
                      by_cases c16 : x7_1 < (t303.size : Int)
                      · rw [if_pos c16] at H
                        have c16b0 : decide (x7_1 < (t303.size : Int)) = true := decide_eq_true c16
                        clear c16
                        replace H := Option.bind_eq_some_iff.mp H
                        obtain ⟨t304, A180, H⟩ := H
                        replace H : (if 3 + t304.size ≤ 9223372036854775807 then (if ((⟨#[32, 91, 45]⟩ : ByteArray) ++ t304).size + 5 ≤ 9223372036854775807 then (if x5_1.size + (((⟨#[32, 91, 45]⟩ : ByteArray) ++ t304) ++ (⟨#[32, 97, 114, 103, 93]⟩ : ByteArray)).size ≤ 9223372036854775807 then (tinselref09_Usage.l0 kj8 x4_1 (x5_1 ++ (((⟨#[32, 91, 45]⟩ : ByteArray) ++ t304) ++ (⟨#[32, 97, 114, 103, 93]⟩ : ByteArray))) t303 (wrap64 (x7_1 + 1))) else (none)) else (none)) else (none)) = some (r1, r2) := H
                        have A18 := Aside0.mk A180
                        clear A180
                        by_cases c19 : 3 + t304.size ≤ 9223372036854775807
                        · rw [if_pos c19] at H
                          have c19b0 := eq_true c19
                          have c19b1 : decide (3 + t304.size ≤ 9223372036854775807) = true := decide_eq_true c19
                          try have c19b2 : (9223372036854775807 < 3 + t304.size) = False := eq_false (Nat.not_lt.2 c19)
                          have c19n2 : (9223372036854775807 < 3 + t304.size) = False := eq_false (Nat.not_lt.2 (by have h_ := c19; (try simp only [ByteArray.size_append] at h_); first | exact h_ | simpa using h_ | omega))
                          by_cases c20 : ((⟨#[32, 91, 45]⟩ : ByteArray) ++ t304).size + 5 ≤ 9223372036854775807
                          · rw [if_pos c20] at H
                            have c20b0 := eq_true c20
                            have c20b1 : decide (((⟨#[32, 91, 45]⟩ : ByteArray) ++ t304).size + 5 ≤ 9223372036854775807) = true := decide_eq_true c20
                            try have c20b2 : (9223372036854775807 < ((⟨#[32, 91, 45]⟩ : ByteArray) ++ t304).size + 5) = False := eq_false (Nat.not_lt.2 c20)
                            have c20n2 : (9223372036854775807 < 3 + t304.size + 5) = False := eq_false (Nat.not_lt.2 (by have h_ := c20; (try simp only [ByteArray.size_append] at h_); first | exact h_ | simpa using h_ | omega))
                            by_cases c21 : x5_1.size + (((⟨#[32, 91, 45]⟩ : ByteArray) ++ t304) ++ (⟨#[32, 97, 114, 103, 93]⟩ : ByteArray)).size ≤ 9223372036854775807
                            · rw [if_pos c21] at H
                              have c21b0 := eq_true c21
                              have c21b1 : decide (x5_1.size + (((⟨#[32, 91, 45]⟩ : ByteArray) ++ t304) ++ (⟨#[32, 97, 114, 103, 93]⟩ : ByteArray)).size ≤ 9223372036854775807) = true := decide_eq_true c21
                              try have c21b2 : (9223372036854775807 < x5_1.size + (((⟨#[32, 91, 45]⟩ : ByteArray) ++ t304) ++ (⟨#[32, 97, 114, 103, 93]⟩ : ByteArray)).size) = False := eq_false (Nat.not_lt.2 c21)
                              have c21n2 : (9223372036854775807 < x5_1.size + (3 + t304.size + 5)) = False := eq_false (Nat.not_lt.2 (by have h_ := c21; (try simp only [ByteArray.size_append] at h_); first | exact h_ | simpa using h_ | omega))
                              have H' := Aside0.mk H
                              clear H
                              have p17 : 0 ≤ (x7_1 : Int) := of_decide_eq_true (by first | (with_reducible assumption) | assumption)
                              have q17 : x7_1 < (t303.size : Int) := of_decide_eq_true (by first | (with_reducible assumption) | assumption)
                              have hx17 := bt_at t303 x7_1
                              replace p17 := eq_true p17
                              replace q17 := eq_true q17
                              go_wp2_with (first | ((with_reducible refine gate_callee (f := 31) rfl ?_); refine goesL_ (some 39) rfl rfl Try.func31 (by kernel_rfl) rfl #[.int .u8 (bt t303 x7_1)] rfl (by (try simp only [List.map_toArray, List.map_cons, List.map_nil]); first | done | rfl | (simp only [List.length_drop, List.length_take]; rfl)) ?_; (with_reducible refine (tinselref09_one.calls (bt t303 x7_1) t304 _ A18.out).mono ?_); rintro e w22 ⟨rfl, hb⟩; refine ⟨_, rfl, ?_⟩; have n0_ := Aside0.mk (below_step (by repeat (first | (with_reducible first | exact HB.out | apply below_alloc | apply pw_below_drewN | apply below_drew1) | exact HB.out)) hb); clear HB; have HB := n0_; clear n0_; (try clear hb); (try clear hb2); (try clear hk); (try clear hi)))
                              go_roundg kj8
                              case measure => have := HK1.out; have := HJ8.out; omega
                              case rel => exact ⟨(x4_1), (x5_1 ++ (((⟨#[32, 91, 45]⟩ : ByteArray) ++ t304) ++ (⟨#[32, 97, 114, 103, 93]⟩ : ByteArray))), (wrap64 (x7_1 + 1)), (by first | rfl | (simp; done) | (simp [*]; done)), (by first | rfl | (simp; done) | (simp [*]; done)), (by first | rfl | (simp; done) | (simp [*]; done)), H', ⟨by have := HK1.out; have := HJ8.out; omega⟩, ⟨by repeat (first | (with_reducible first | exact HB.out | apply below_alloc | apply pw_below_drewN | apply below_drew1) | exact HB.out)⟩⟩
                            · rw [if_neg c21] at H
                              exact absurd H (by simp)
                          · rw [if_neg c20] at H
                            exact absurd H (by simp)
                        · rw [if_neg c19] at H
                          exact absurd H (by simp)
                      · rw [if_neg c16] at H
                        exact absurd H (by simp)
                    · rw [if_neg c15] at H
                      exact absurd H (by simp)
                  · replace c14 := Bool.eq_false_iff.mpr c14
                    subst c14
                    have H1 : (if 0 ≤ x7_1 then (if x7_1 < (t303.size : Int) then ((tinselref09_one.f (bt t303 x7_1)).bind fun t305 => (if x4_1.size + t305.size ≤ 9223372036854775807 then (tinselref09_Usage.l0 kj8 (x4_1 ++ t305) x5_1 t303 (wrap64 (x7_1 + 1))) else (none))) else (none)) else (none)) = some (r1, r2) := by rw [if_neg (show ¬ (false = true) by decide)] at H; exact H
                    clear H
                    have H := H1
                    clear H1
                    by_cases c23 : 0 ≤ x7_1
                    · rw [if_pos c23] at H
                      have c23b0 : decide (0 ≤ x7_1) = true := decide_eq_true c23
                      clear c23
                      by_cases c24 : x7_1 < (t303.size : Int)
                      · rw [if_pos c24] at H
                        have c24b0 : decide (x7_1 < (t303.size : Int)) = true := decide_eq_true c24
                        clear c24
                        replace H := Option.bind_eq_some_iff.mp H
                        obtain ⟨t305, A260, H⟩ := H
                        replace H : (if x4_1.size + t305.size ≤ 9223372036854775807 then (tinselref09_Usage.l0 kj8 (x4_1 ++ t305) x5_1 t303 (wrap64 (x7_1 + 1))) else (none)) = some (r1, r2) := H
                        have A26 := Aside0.mk A260
                        clear A260
                        by_cases c27 : x4_1.size + t305.size ≤ 9223372036854775807
                        · rw [if_pos c27] at H
                          have c27b0 := eq_true c27
                          have c27b1 : decide (x4_1.size + t305.size ≤ 9223372036854775807) = true := decide_eq_true c27
                          try have c27b2 : (9223372036854775807 < x4_1.size + t305.size) = False := eq_false (Nat.not_lt.2 c27)
                          have c27n2 : (9223372036854775807 < x4_1.size + t305.size) = False := eq_false (Nat.not_lt.2 (by have h_ := c27; (try simp only [ByteArray.size_append] at h_); first | exact h_ | simpa using h_ | omega))
                          have H' := Aside0.mk H
                          clear H
                          have p25 : 0 ≤ (x7_1 : Int) := of_decide_eq_true (by first | (with_reducible assumption) | assumption)
                          have q25 : x7_1 < (t303.size : Int) := of_decide_eq_true (by first | (with_reducible assumption) | assumption)
                          have hx25 := bt_at t303 x7_1
                          replace p25 := eq_true p25
                          replace q25 := eq_true q25
                          go_wp2_with (first | ((with_reducible refine gate_callee (f := 31) rfl ?_); refine goesL_ (some 47) rfl rfl Try.func31 (by kernel_rfl) rfl #[.int .u8 (bt t303 x7_1)] rfl (by (try simp only [List.map_toArray, List.map_cons, List.map_nil]); first | done | rfl | (simp only [List.length_drop, List.length_take]; rfl)) ?_; (with_reducible refine (tinselref09_one.calls (bt t303 x7_1) t305 _ A26.out).mono ?_); rintro e w28 ⟨rfl, hb⟩; refine ⟨_, rfl, ?_⟩; have n0_ := Aside0.mk (below_step (by repeat (first | (with_reducible first | exact HB.out | apply below_alloc | apply pw_below_drewN | apply below_drew1) | exact HB.out)) hb); clear HB; have HB := n0_; clear n0_; (try clear hb); (try clear hb2); (try clear hk); (try clear hi)))
                          go_roundg kj8
                          case measure => have := HK1.out; have := HJ8.out; omega
                          case rel => exact ⟨(x4_1 ++ t305), (x5_1), (wrap64 (x7_1 + 1)), (by first | rfl | (simp; done) | (simp [*]; done)), (by first | rfl | (simp; done) | (simp [*]; done)), (by first | rfl | (simp; done) | (simp [*]; done)), H', ⟨by have := HK1.out; have := HJ8.out; omega⟩, ⟨by repeat (first | (with_reducible first | exact HB.out | apply below_alloc | apply pw_below_drewN | apply below_drew1) | exact HB.out)⟩⟩
                        · rw [if_neg c27] at H
                          exact absurd H (by simp)
                      · rw [if_neg c24] at H
                        exact absurd H (by simp)
                    · rw [if_neg c23] at H
                      exact absurd H (by simp)
          · rw [if_neg c6] at H
            exact absurd H (by simp)
        · rw [if_neg c5] at H
          have c5b0 : decide (x7_1 < (t303.size : Int)) = false := decide_eq_false c5
          clear c5
          by_cases c29 : x4_1.toList = ([] : List UInt8)
          · rw [if_pos c29] at H
            have c29b0 : (x4_1.toList == ([] : List UInt8)) = true := beq_iff_eq.mpr c29
            have c29b1 : (x4_1.toList != ([] : List UInt8)) = false := bne_eq_false_iff_eq.mpr c29
            clear c29
            by_cases c30 : x5_1.toList = ([] : List UInt8)
            · rw [if_pos c30] at H
              have c30b0 : (x5_1.toList == ([] : List UInt8)) = true := beq_iff_eq.mpr c30
              have c30b1 : (x5_1.toList != ([] : List UInt8)) = false := bne_eq_false_iff_eq.mpr c30
              clear c30
              simp only [Option.some.injEq, Prod.mk.injEq] at H
              obtain ⟨rfl, rfl⟩ := H
              go_wp2
              go_ret2
              exact ⟨by first | rfl | (simp [errW_none, errW_some] <;> rfl) | (simp [*, errW_none, errW_some] <;> rfl), by repeat (first | (with_reducible first | exact HB.out | apply below_alloc | apply pw_below_drewN | apply below_drew1) | exact HB.out)⟩
            · rw [if_neg c30] at H
              have c30b0 : (x5_1.toList == ([] : List UInt8)) = false := beq_eq_false_iff_ne.mpr c30
              have c30b1 : (x5_1.toList != ([] : List UInt8)) = true := bne_iff_ne.mpr c30
              by_cases c31 : 1 ≤ (x5_1.size : Int)
              · rw [if_pos c31] at H
                have c31b0 := eq_true c31
                have c31b1 : decide (1 ≤ (x5_1.size : Int)) = true := decide_eq_true c31
                clear c31
                simp only [Option.some.injEq, Prod.mk.injEq] at H
                obtain ⟨rfl, rfl⟩ := H
                go_wp2
                go_ret2
                exact ⟨by first | rfl | (simp [errW_none, errW_some] <;> rfl) | (simp [*, errW_none, errW_some] <;> rfl), by repeat (first | (with_reducible first | exact HB.out | apply below_alloc | apply pw_below_drewN | apply below_drew1) | exact HB.out)⟩
              · rw [if_neg c31] at H
                exact absurd H (by simp)
          · rw [if_neg c29] at H
            have c29b0 : (x4_1.toList == ([] : List UInt8)) = false := beq_eq_false_iff_ne.mpr c29
            have c29b1 : (x4_1.toList != ([] : List UInt8)) = true := bne_iff_ne.mpr c29
            by_cases c32 : 2 + x4_1.size ≤ 9223372036854775807
            · rw [if_pos c32] at H
              have c32b0 := eq_true c32
              have c32b1 : decide (2 + x4_1.size ≤ 9223372036854775807) = true := decide_eq_true c32
              try have c32b2 : (9223372036854775807 < 2 + x4_1.size) = False := eq_false (Nat.not_lt.2 c32)
              have c32n2 : (9223372036854775807 < 2 + x4_1.size) = False := eq_false (Nat.not_lt.2 (by have h_ := c32; (try simp only [ByteArray.size_append] at h_); first | exact h_ | simpa using h_ | omega))
              by_cases c33 : ((⟨#[91, 45]⟩ : ByteArray) ++ x4_1).size + 1 ≤ 9223372036854775807
              · rw [if_pos c33] at H
                have c33b0 := eq_true c33
                have c33b1 : decide (((⟨#[91, 45]⟩ : ByteArray) ++ x4_1).size + 1 ≤ 9223372036854775807) = true := decide_eq_true c33
                try have c33b2 : (9223372036854775807 < ((⟨#[91, 45]⟩ : ByteArray) ++ x4_1).size + 1) = False := eq_false (Nat.not_lt.2 c33)
                have c33n2 : (9223372036854775807 < 2 + x4_1.size + 1) = False := eq_false (Nat.not_lt.2 (by have h_ := c33; (try simp only [ByteArray.size_append] at h_); first | exact h_ | simpa using h_ | omega))
                by_cases c34 : (((⟨#[91, 45]⟩ : ByteArray) ++ x4_1) ++ (⟨#[93]⟩ : ByteArray)).size + x5_1.size ≤ 9223372036854775807
                · rw [if_pos c34] at H
                  have c34b0 := eq_true c34
                  have c34b1 : decide ((((⟨#[91, 45]⟩ : ByteArray) ++ x4_1) ++ (⟨#[93]⟩ : ByteArray)).size + x5_1.size ≤ 9223372036854775807) = true := decide_eq_true c34
                  try have c34b2 : (9223372036854775807 < (((⟨#[91, 45]⟩ : ByteArray) ++ x4_1) ++ (⟨#[93]⟩ : ByteArray)).size + x5_1.size) = False := eq_false (Nat.not_lt.2 c34)
                  have c34n2 : (9223372036854775807 < 2 + x4_1.size + 1 + x5_1.size) = False := eq_false (Nat.not_lt.2 (by have h_ := c34; (try simp only [ByteArray.size_append] at h_); first | exact h_ | simpa using h_ | omega))
                  simp only [Option.some.injEq, Prod.mk.injEq] at H
                  obtain ⟨rfl, rfl⟩ := H
                  go_wp2
                  go_ret2
                  exact ⟨by first | rfl | (simp [errW_none, errW_some] <;> rfl) | (simp [*, errW_none, errW_some] <;> rfl), by repeat (first | (with_reducible first | exact HB.out | apply below_alloc | apply pw_below_drewN | apply below_drew1) | exact HB.out)⟩
                · rw [if_neg c34] at H
                  exact absurd H (by simp)
              · rw [if_neg c33] at H
                exact absurd H (by simp)
            · rw [if_neg c32] at H
              exact absurd H (by simp)
  · replace c3 := Bool.eq_false_iff.mpr c3
    subst c3
    have H1 : (some ((⟨#[]⟩ : ByteArray), 22)) = some (r1, r2) := by rw [if_neg (show ¬ (false = true) by decide)] at H; exact H
    clear H
    have H := H1
    clear H1
    simp only [Option.some.injEq, Prod.mk.injEq] at H
    obtain ⟨rfl, rfl⟩ := H
    go_enter Try.func23, Try.ntmps23
    go_wp2_with (first | ((with_reducible refine gate_callee (f := 29) rfl ?_); refine goesL_ (some 9) rfl rfl Try.func29 (by kernel_rfl) rfl #[.string a0] rfl (by (try simp only [List.map_toArray, List.map_cons, List.map_nil]); first | done | rfl | (simp only [List.length_drop, List.length_take]; rfl)) ?_; (with_reducible refine (tinselref09_Spec.calls k a0 false _ A2.out).mono ?_); rintro e w' ⟨rfl, ⟨nd, rfl⟩⟩; refine ⟨_, rfl, ?_⟩))
    go_ret2
    exact ⟨by first | rfl | (simp [errW_none, errW_some] <;> rfl) | (simp [*, errW_none, errW_some] <;> rfl), by repeat (first | (with_reducible first | exact HB.out | apply below_alloc | apply pw_below_drewN | apply below_drew1) | exact HB.out)⟩

end Go.Proofs.Ytcmicndmaaaknaa.G
