/- CopyNone's row, lifted: at every world that the row speaks of the call returns true. -/
import Derived.Test.YtfchidckklhmpaaGreatDoorRows
import Derived.Test.YtfchidckklhmpaaGreatDoorJ1
import Derived.Test.YtfchidckklhmpaaGreatDoorR7
import Derived.Test.YtfchidckklhmpaaGreatDoorHC
import Derived.ProofKit
import Derived.OpenShut
import Derived.ShutString
import Derived.LaidMore
import Derived.Lay
import Derived.Below
import Derived.ChangeOld
import Derived.Deep.DeepHandedRow
import Derived.Stop.Joined
namespace Go.Proofs.YtfchidckklhmpaaGreatDoor
open Go Go.ChangeShapes Go.WideShapes Go.ChangeAt Go.RowKit Go.Ev
open Go.Proofs.YtfchidckklhmpaaGreatDoor.G Go.Proofs.YtfchidckklhmpaaGreatDoorW.PrintWords
set_option linter.unusedVariables false

theorem own : ownKnob Tryz.prog.godebug = none := by kernel_rfl

/-- the table's cells -/
theorem tab_cells {W : World} (h : laidMetH Tryz.prog Rows.copyNoneUptoRow.laid W) (r : Nat) (hr : r < 64) : W.cell? ⟨3, r, none⟩ = some (.int .u8 (.ofNat (Run.deB.getD r 0))) := by
  rw [MakeChecks.laidMetH_plain _ _ _ (by kernel_rfl)] at h
  obtain ⟨ps, ⟨g1, t1, cs1, f1, p1, q1, hg1, ht1, hv1, hd1, _, _⟩, _, _⟩ := h
  obtain rfl := Option.some.inj ((show Tryz.prog.globalNamed "math/bits.deBruijn64tab" = some 3 by kernel_rfl).symm.trans hg1)
  obtain rfl := Option.some.inj ((show (Tryz.prog.globals[3]?).map (·.type) = some 287 by kernel_rfl).symm.trans ht1)
  obtain ⟨xs, m, _, ex, _, hl, hel⟩ := DataW.trod_array Tryz.underlying287 hd1
  have c5 : Tryz.prog.cellsOf 5 = 1 := by kernel_rfl
  have hE := hel r hr
  rw [c5, Nat.mul_one, List.getElem?_eq_getElem (by omega)] at hE
  obtain ⟨z, e1, e2, _⟩ := DataW.trod_int Tryz.underlying5 hE
  have e3 : (xs.map (·.1)) = Run.deB.map fun n => .lit (.int .u8 (.ofNat n)) := (DataW.agg.inj (Prod.mk.inj ex).1).symm
  have hlen : Run.deB.length = 64 := by kernel_rfl
  have e4 : (xs.map (·.1))[r]? = (Run.deB.map fun n => (DataW.lit (.int .u8 (.ofNat n)) : DataW Unit))[r]? := by rw [e3]
  rw [List.getElem?_map, List.getElem?_map, List.getElem?_eq_getElem (by omega : r < xs.length), List.getElem?_eq_getElem (by omega : r < Run.deB.length), e2] at e4
  have hz : z = .ofNat (Run.deB.getD r 0) := by
    simp only [Option.map_some, Option.some.injEq, DataW.lit.injEq, Lit.int.injEq, true_and] at e4
    rw [e4, List.getD, List.getElem?_eq_getElem (by omega : r < Run.deB.length)]; rfl
  rw [World.var?_cell hg1 hv1 r, ← hz]
  have : cs1.toList[r]? = some (.int .u8 z) := by
    have h0 : ((cs1.toList.drop r).take 1)[0]? = some (.int .u8 z) := by rw [e1]; rfl
    simpa using h0
  simpa using this

/-- the memory when the call begins is as the evaluator takes it -/
theorem hr0 {E : Nat → Option Value} {W : World} (hsh : W.ShapedOpen Tryz.prog) (hl : laidMetH Tryz.prog Rows.copyNoneUptoRow.laid W) : HR E Tryz.prog 4 W (σ0 4) Run.h0 W := by
  obtain ⟨cs, hcs, hsz, _⟩ := hsh.1 3 (Array.replicate 64 (.int .u8 0)) 287 (of_decide_eq_true (by kernel_rfl)) (by kernel_rfl)
  have hlt : 3 < W.heap.size := (Array.getElem?_eq_some_iff.1 hcs).1
  have hs0 : ∀ b c, σ0 4 b = some c → b = c ∧ b < 4 := by
    intro b c e
    simp only [σ0] at e
    split at e
    · rename_i h; injection e with e; exact ⟨e, h⟩
    · cases e
  refine ⟨fun b c e => ?_, fun b₁ b₂ c _ _ e1 e2 => ?_, fun b o c g e => ?_, fun g hg => by simp [σ0, hg], fun b o c g e hG => ?_, ⟨Nat.le_refl _, fun _ _ => rfl⟩, rfl, rfl⟩
  · obtain ⟨rfl, h⟩ := hs0 b c e
    exact ⟨h, by omega⟩
  · obtain ⟨rfl, _⟩ := hs0 _ _ e1
    exact (hs0 _ _ e2).1.symm
  · obtain ⟨rfl, rfl⟩ := Run.h0_get g
    obtain ⟨rfl, _⟩ := hs0 _ _ e
    have hsize : cs.size = 64 := by rw [hsz]; simp
    refine ⟨_, hcs, OR.row (r := ⟨Run.cells3, 64, 287, true⟩) (by simp [σ0, hsize]) (fun i v hv => ?_) (.inl rfl) (fun _ => rfl)⟩
    have hi : i < 64 := Row.get_lt hv
    unfold Row.get at hv
    have hbl : Nat.ble (Nat.succ i) 64 = true := Nat.ble_eq_true_of_le hi
    simp only [hbl, Run.cells3_get i hi] at hv
    injection hv with hv
    subst hv
    have := tab_cells hl i hi
    refine ⟨_, ?_, VR.int _ _⟩
    simpa [World.cell?, hcs] using this
  · have := (Run.h0_get g).1
    omega

/-- getopt.Parse of whatever arguments: it answers -/
theorem blind {E : Nat → Option Value} {W : World} {A : Option Addr} {c : Nat} {l : List ByteArray} (hC : Kd.C Kd.string W A l.length l) (hc : l.length ≤ c) (hw : weight l ≤ 1048576) (hE : E 1 = some (.slice A l.length c)) : IsBlind E W Tryz.prog 84 := by
  refine ⟨⟨Tryz.f84, Tryz.func84, by kernel_rfl, by kernel_rfl⟩, fun v1 s w h1 hs hsz hold => ?_⟩
  obtain rfl : v1 = .slice A l.length c := by rw [hE] at h1; exact (Option.some.inj h1).symm
  have hC0 : Kd.C Kd.string { W with heap := w.heap } A l.length l := Kd.C_below hC ⟨rfl, rfl, rfl, hsz, hold⟩
  have hC1 : Kd.C Kd.string w A l.length l := hC0
  have hz : zmax = 1000000 := rfl
  have hs1 : s.size ≤ 140737488355328 := by have := G.data_length s; omega
  obtain ⟨r1, r2, r3, r4, r5, hf⟩ : ∃ r1 r2 r3 r4 r5, getopt_Parse.f s l = some (r1, r2, r3, r4, r5) := by
    unfold getopt_Parse.f
    rw [if_pos ⟨by omega, hs1⟩]
    cases specOf s with
    | none => exact ⟨_, _, _, _, _, rfl⟩
    | some p => exact ⟨_, _, _, _, _, rfl⟩
  refine (getopt_Parse.calls s A c l r1 r2 r3 r4 r5 w hC1 hc hf).mono fun e w' p => ?_
  obtain ⟨v0, v1, rfl, hR1, hR2, hb⟩ := p
  obtain ⟨A0, c0, rfl, _, _⟩ := Kd.R_reads hR1
  obtain ⟨A1, c1, rfl, _, _⟩ := Kd.R_reads hR2
  exact ⟨⟨_, _, .string r3, .bool r4, .int .i64 r5, rfl, rfl, rfl, rfl, rfl, rfl⟩, hb⟩

/-- a number that is no applet's -/
theorem out_calls (n : Int) (hn : n < 0 ∨ 10 < n) (v1 : Value) (W : World) (Q : World → Prop) (hl : Calls Tryz.prog 6 #[] W fun e w' => e = .returned (.bool true) ∧ Q w') :
    Calls Tryz.prog 3 #[.int .i64 n, v1] W fun e w' => e = .returned (.bool true) ∧ Q w' := by
  rcases hn with h | h
  · have h1 : decide (n < 0) = true := decide_eq_true h
    go_enter Tryz.func3, Tryz.ntmps3
    go_wp2_with (go_at_call 6; refine hl.mono ?_; rintro e w' ⟨rfl, hq⟩)
    go_ret
    exact ⟨rfl, hq⟩
  · have h1 : decide (n < 0) = false := decide_eq_false (by omega)
    have h2 : decide (10 < n) = true := decide_eq_true h
    go_enter Tryz.func3, Tryz.ntmps3
    go_wp2_with (go_at_call 6; refine hl.mono ?_; rintro e w' ⟨rfl, hq⟩)
    go_ret
    exact ⟨rfl, hq⟩

noncomputable abbrev laidWorld (os : Os) : World := World.laidAll Tryz.prog os Rows.copyNoneUptoRow.laid
theorem reads (os : Os) {H : Type} (enc : TypeId × Value → H) : ∃ places, DataW.whole enc Tryz.prog ((laidWorld os).forCall (fun _ _ => 0) ⟨#[], #[.int .i64 0, .slice none 0 0], []⟩).memory Tryz.f3.params.toList Rows.copyNoneSpec.vars false #[Value.int .i64 0, .slice none 0 0].toList 8 = some ([.lit (.int .i64 0), .nil], [], places) :=
  ⟨[], by kernel_rfl⟩

set_option maxRecDepth 100000 in
theorem lifted (os : Os) (started : os.Started) (H : Type) (enc : TypeId × Value → H) (F : Stop.Interp) :
    ReturnsInHanded {} Tryz.checked os 3 .any ((Rows.OpenSpec.upto Rows.copyNoneSpec).preRow enc Tryz.prog Tryz.f3 Rows.copyNoneUptoRow.domain false Rows.copyNoneUptoRow.laid) (((Rows.OpenSpec.upto Rows.copyNoneSpec).at F).post enc Tryz.prog Tryz.f3 false true false false) := by
  obtain ⟨places, hx⟩ := reads os enc
  have hok : Input.okWideB Tryz.prog ((laidWorld os).forCall (fun _ _ => 0) ⟨#[], #[.int .i64 0, .slice none 0 0], []⟩) 3 ⟨#[], #[.int .i64 0, .slice none 0 0], []⟩ = true := by kernel_rfl
  refine returnsInHanded_of_row (C := Tryz.checked) (s := Rows.OpenSpec.upto Rows.copyNoneSpec) own started (by kernel_rfl) Tryz.func3
    ⟨laidWorld os, fun _ _ => 0, ⟨#[], #[.int .i64 0, .slice none 0 0], []⟩, World.laidAll_os _ _ _, World.shaped_of_ZipB (by kernel_rfl) (by kernel_rfl), (Input.okWide_of_okWideB (base := 0) hok).1, (Input.okWide_of_okWideB hok).2,
      OpenSpec.preRow_of_cond 8 hx (by kernel_rfl) (fun k hk => by cases hk; kernel_rfl) (by kernel_rfl) (by rw [MakeChecks.laidMetH_plain _ _ _ (by kernel_rfl)]; exact laidMet_laidAll _ (by kernel_rfl) (by kernel_rfl)), by
        simp only [Assume.holds]
        exact ⟨by simp, by simp, fun _ => Modest.zero, by simp, by simp⟩⟩ ?_
  intro W base args ds gs before hval0 hW _ hcond _ hL hsh _
  have hval : ∀ (j : Nat) t v, Tryz.f3.params[j]? = some t → args[j]? = some v → Value.okWide Tryz.prog W .any base t v := hval0
  have hW' := hW
  obtain ⟨p, q, hA0, hV, rfl, _, _⟩ := hW
  have hA : DataW.TrodAll enc Tryz.prog W 0 (fun _ => true) true Tryz.f3.params.toList args.toList ds p := hA0
  rw [Tryz.params3] at hA hval
  obtain ⟨v0, vs0, d0, ds0, p0, q0, hargs, rfl, rfl, k0, r0⟩ := trodAll_cons hA
  obtain ⟨v1, vs1, d1, ds1, p1, q1, rfl, rfl, rfl, k1, r1⟩ := trodAll_cons r0
  obtain ⟨rfl, rfl, rfl⟩ := trodAll_nil r1
  obtain rfl : args = #[v0, v1] := by cases args; simp_all
  obtain ⟨rfl, rfl⟩ := trodVars_none hV
  obtain ⟨n, rfl, rfl, rfl, y0⟩ := open_int Tryz.underlying3 (hval 0 3 v0 rfl rfl) k0
  obtain ⟨a1, len1, cap1, rfl⟩ := okWide_slice Tryz.underlying22 (hval 1 22 v1 rfl rfl)
  have lt1 : ∀ x ∈ p1, x.block < W.heap.size := by obtain ⟨m, hm⟩ := k1; exact DataW.trod_lt m _ _ _ hm
  obtain ⟨l, hl, hc, hC, hd⟩ := open_texts k1
  subst hl
  have hb := bulks.bound (hcond _ rfl)
  have hb1 : weight l ≤ 1048576 := by
    have := bulks.part_le (l := [DataW.lit (H := H) (.int .i64 n), d1] ++ []) (d := d1) (by simp)
    have h2 := bulks.texts hd
    omega
  have hR : HR (fun k => if k = 1 then some (Value.slice a1 l.length cap1) else none) Tryz.prog 4 W (σ0 4) Run.h0 W := hr0 hsh hL
  have hbl : IsBlind (fun k => if k = 1 then some (Value.slice a1 l.length cap1) else none) W Tryz.prog 84 := blind hC hc hb1 rfl
  have hfin : Calls Tryz.prog 3 #[.int .i64 n, .slice a1 l.length cap1] W fun e w' => e = .returned (.bool true) ∧ ∃ w'', w'.Alike w'' ∧ RowKit.Below W.heap.size W w'' := by
    by_cases hn : n < 0 ∨ 10 < n
    · exact out_calls n hn _ W _ (Run.lives_calls hR)
    · obtain ⟨k, rfl⟩ : ∃ k : Nat, n = Int.ofNat k := ⟨n.toNat, by simp only [Int.ofNat_eq_natCast]; omega⟩
      have hk : k < 11 := by simp only [Int.ofNat_eq_natCast] at hn; omega
      exact Run.applet_calls hbl hR rfl rfl k hk
  refine hfin.mono fun e W' ⟨he, w2, hal, bel⟩ => ?_
  subst he
  exact ⟨_, rfl, ChangeSpec.post_alike (W'' := w2) ⟨_, _, _, [], _, [], hW', trodAll_mk1 (shut_bool Tryz.underlying4 _), (trodAll_cons_mk (shut_int Tryz.underlying3 y0) (trodAll_cons_mk (Below.trod j1 (by kernel_rfl) (of_decide_eq_true (by kernel_rfl)) k1 bel lt1) trodAll_mk0)), rfl, bel.frame _, fun h => by cases h⟩ hal⟩
end Go.Proofs.YtfchidckklhmpaaGreatDoor
