/- AttrNone's row, lifted: at every world that the row speaks of the call returns true. -/
import Derived.Test.YtnaodplcionlhaaGreatDoorRows
import Derived.Test.YtnaodplcionlhaaGreatDoorJ1
import Derived.Test.YtnaodplcionlhaaGreatDoorR6
import Derived.ProofKit
import Derived.OpenShut
import Derived.LaidMore
import Derived.Lay
import Derived.Below
import Derived.ChangeOld
import Derived.HandedShaped
import Derived.Stop.Joined
namespace Go.Proofs.YtnaodplcionlhaaGreatDoor
open Go Go.ChangeShapes Go.WideShapes Go.ChangeAt Go.RowKit Go.Ev
set_option linter.unusedVariables false

section
variable {H : Type} {enc : TypeId × Value → H}
/-- the wrap for a row that lists variables, the world's shape handed on too -/
theorem handed_laid_shaped {a : Assume} {C : Checked} {os : Os} {f : FuncId} {fn : Func} {s : ChangeSpec} {conds : List PathCond} {apart fresh handsOn again : Bool} {X : World → Array Value → Prop}
    (hX : ∀ (w w' : World) (args : Array Value), w.heap = w'.heap → X w args → X w' args)
    (own : ownKnob C.prog.godebug = none) (started : os.Started) (noInit : C.prog.inits.idxOf? f = none) (hfn : C.prog.funcs[f]? = some fn)
    (witness : ∃ (w : World) (tape : Tape) (i : Input), w.os = os ∧ (w.forCall tape i).Shaped C.prog ∧ i.vars = [] ∧ Input.okWide C.prog (w.forCall tape i) .any w.heap.size f i ∧
      ((s.pre enc C.prog fn conds apart (w.forCall tape i).memory i.args ∧ X (w.forCall tape i).memory i.args) ∧ sizedMet enc C.prog fn (OpenSpec.ofChange s) apart (w.forCall tape i).memory i.args) ∧ a.holds C.prog (lone (Frame.enter C.prog f i.args .normal) [] (w.forCall tape i)))
    (contract : ∀ (W : World) (base : Nat) (args : Array Value) (ds gs : List (DataW H)) (before : List MemPlace),
      (∀ (j : Nat) t v, fn.params[j]? = some t → args[j]? = some v → Value.okWide C.prog W .any base t v) →
      DataW.Whole enc C.prog fn.params.toList s.vars apart W args.toList ds gs before → X W args → W.ShapedOpen C.prog →
      Calls C.prog f args W fun e W' => ∃ v, e = .returned v ∧ s.post enc C.prog fn apart fresh handsOn again W args v W') :
    ReturnsInHanded a C os f .any (fun w args => (s.pre enc C.prog fn conds apart w args ∧ X w args) ∧ sizedMet enc C.prog fn (OpenSpec.ofChange s) apart w args) (s.post enc C.prog fn apart fresh handsOn again) := by
  refine returnsInHanded_of_calls own started noInit witness ?_
  intro w tape i _ hsh _ hok hpre hholds
  obtain ⟨_, _, _, fn', hfn', _, _, _, _, hval⟩ := hok
  have e : fn' = fn := Option.some.inj (hfn'.symm.trans hfn)
  subst e
  obtain ⟨⟨⟨ds, gs, before, hw, hc⟩, hx⟩, hz⟩ := hpre
  have hw' := DataW.Whole.of_heap (w' := w.forCall tape i) (by rfl) hw
  refine (contract (w.forCall tape i) w.heap.size i.args ds gs before hval hw' (hX _ _ _ (by rfl) hx) hsh).mono fun e W' ⟨v, he, hp⟩ => ?_
  subst he
  exact ChangeSpec.post_blind hp
end

theorem own : ownKnob Tryz.prog.godebug = none := by kernel_rfl

/-- the table's cells -/
theorem tab_cells {W : World} (h : laidMetH Tryz.prog Rows.attrNoneRow.laid W) (r : Nat) (hr : r < 64) : W.cell? ⟨7, r, none⟩ = some (.int .u8 (.ofNat (Run.deB.getD r 0))) := by
  rw [MakeChecks.laidMetH_plain _ _ _ (by kernel_rfl)] at h
  obtain ⟨ps, ⟨g0, t0, cs0, f0, p0, q0, hg0, ht0, hv0, hd0, ⟨g1, t1, cs1, f1, p1, q1, hg1, ht1, hv1, hd1, _, _⟩, _⟩, _, _⟩ := h
  obtain rfl := Option.some.inj ((show Tryz.prog.globalNamed "math/bits.deBruijn64tab" = some 7 by kernel_rfl).symm.trans hg1)
  obtain rfl := Option.some.inj ((show (Tryz.prog.globals[7]?).map (·.type) = some 540 by kernel_rfl).symm.trans ht1)
  obtain ⟨xs, m, _, ex, _, hl, hel⟩ := DataW.trod_array Tryz.underlying540 hd1
  have c5 : Tryz.prog.cellsOf 5 = 1 := by kernel_rfl
  have hE := hel r hr
  rw [c5, Nat.mul_one, List.getElem?_eq_getElem (by omega)] at hE
  obtain ⟨z, e1, e2, _⟩ := DataW.trod_int Tryz.underlying5 hE
  have e3 : (xs.map (·.1)) = Run.deB.map fun n => .lit (.int .u8 (.ofNat n)) := (DataW.agg.inj (Prod.mk.inj ex).1).symm
  have hlen : Run.deB.length = 64 := by kernel_rfl
  have e4 : (xs.map (·.1))[r]? = (Run.deB.map fun n => (DataW.lit (.int .u8 (.ofNat n)) : DataW Unit))[r]? := by rw [e3]
  rw [List.getElem?_map, List.getElem?_map, List.getElem?_eq_getElem (by omega : r < xs.length), List.getElem?_eq_getElem (by omega : r < Run.deB.length), e2] at e4
  have hz : z = .ofNat (Run.deB.getD r 0) := by
    simp only [Option.map_some, Option.some.injEq, DataW.lit.injEq, Lit.int.injEq, true_and] at e4
    rw [e4, List.getD, List.getElem?_eq_getElem (by omega : r < Run.deB.length)]; rfl
  rw [World.var?_cell hg1 hv1 r, ← hz]
  have : cs1.toList[r]? = some (.int .u8 z) := by
    have h0 : ((cs1.toList.drop r).take 1)[0]? = some (.int .u8 z) := by rw [e1]; rfl
    simpa using h0
  simpa using this

theorem cells7_get (i : Nat) (hi : i < 64) : Run.cells7.get i = some (Run.vk .u8 (Run.deB.getD i 0)) := by
  have hlen : Run.deB.length = 64 := by kernel_rfl
  unfold Run.cells7
  cases hp : Trie.nil.puts D 0 (Run.deB.map (Run.vk .u8)) with
  | none =>
    have : (Trie.nil.puts D 0 (Run.deB.map (Run.vk .u8))).isSome = true := by kernel_rfl
    rw [hp] at this; cases this
  | some t =>
    show t.get i = _
    rw [Trie.get_puts _ _ _ _ _ hp i, if_pos ⟨Nat.zero_le _, by simp [hlen]; exact hi⟩]
    rw [Nat.sub_zero, List.getElem?_map, List.getElem?_eq_getElem (by omega : i < Run.deB.length), List.getD, List.getElem?_eq_getElem (by omega : i < Run.deB.length)]
    rfl
theorem blks0_get (b : Nat) : Run.blks0.get b = if b = 7 then some (Run.rW Run.cells7 64 540 true) else none := by
  unfold Run.blks0
  cases hp : Trie.nil.put D 7 (some (Run.rW Run.cells7 64 540 true)) with
  | none =>
    have : (Trie.nil.put D 7 (some (Run.rW Run.cells7 64 540 true))).isSome = true := by kernel_rfl
    rw [hp] at this; cases this
  | some t =>
    show t.get b = _
    rw [Trie.get_put _ _ _ _ _ hp b, Trie.get_nil]

/-- the memory when the call begins is as the evaluator takes it -/
theorem hr0 {E : Nat → Option Value} {W : World} (hsh : W.ShapedOpen Tryz.prog) (hl : laidMetH Tryz.prog Rows.attrNoneRow.laid W) : HR E Tryz.prog 8 W (σ0 8) Run.h0 W := by
  obtain ⟨cs, hcs, hsz, _⟩ := hsh.1 7 (Array.replicate 64 (.int .u8 0)) 540 (of_decide_eq_true (by kernel_rfl)) (by kernel_rfl)
  have hlt : 7 < W.heap.size := (Array.getElem?_eq_some_iff.1 hcs).1
  have hs0 : ∀ b c, σ0 8 b = some c → b = c ∧ b < 8 := by
    intro b c e
    simp only [σ0] at e
    split at e
    · rename_i h; injection e with e; exact ⟨e, h⟩
    · cases e
  have hb : ∀ b o, Run.h0.blks.get b = some o → b = 7 ∧ o = Run.rW Run.cells7 64 540 true := by
    intro b o e
    rw [show Run.h0.blks.get b = Run.blks0.get b from rfl, blks0_get] at e
    split at e
    · rename_i h; injection e with e; exact ⟨h, e.symm⟩
    · cases e
  refine ⟨fun b c e => ?_, fun b₁ b₂ c _ _ e1 e2 => ?_, fun b o c g e => ?_, fun g hg => by simp [σ0, hg], fun b o c g e hG => ?_, ⟨Nat.le_refl _, fun _ _ => rfl⟩, rfl, rfl⟩
  · obtain ⟨rfl, h⟩ := hs0 b c e
    exact ⟨h, by omega⟩
  · obtain ⟨rfl, _⟩ := hs0 _ _ e1
    exact (hs0 _ _ e2).1.symm
  · obtain ⟨rfl, rfl⟩ := hb b o g
    obtain ⟨rfl, _⟩ := hs0 _ _ e
    have hsize : cs.size = 64 := by rw [hsz]; simp
    refine ⟨_, hcs, OR.row (r := ⟨Run.cells7, 64, 540, true⟩) (by simp [σ0, hsize]) (fun i v hv => ?_) (.inl rfl) (fun _ => rfl)⟩
    have hi : i < 64 := Row.get_lt hv
    unfold Row.get at hv
    have hbl : Nat.ble (Nat.succ i) 64 = true := Nat.ble_eq_true_of_le hi
    simp only [hbl, cells7_get i hi] at hv
    injection hv with hv
    subst hv
    have := tab_cells hl i hi
    refine ⟨_, ?_, VR.int _ _⟩
    simpa [World.cell?, hcs] using this
  · have := (hb b o g).1
    omega

set_option maxRecDepth 100000 in
theorem lifted (os : Os) (started : os.Started) (H : Type) (enc : TypeId × Value → H) :
    ReturnsInHanded {} Tryz.checked os 3 .any (fun w args => (Rows.attrNoneSpec.pre enc Tryz.prog Tryz.f3 Rows.attrNoneRow.domain false w args ∧ laidMetH Tryz.prog Rows.attrNoneRow.laid w) ∧ sizedMet enc Tryz.prog Tryz.f3 (OpenSpec.ofChange Rows.attrNoneSpec) false w args)
      (Rows.attrNoneSpec.post enc Tryz.prog Tryz.f3 false true false false) := by
  refine handed_laid_shaped (C := Tryz.checked) (X := fun w _ => laidMetH Tryz.prog Rows.attrNoneRow.laid w) (fun _ _ _ hh h => h.of_heap hh) own started (by kernel_rfl) Tryz.func3
    (ChangeSpec.witness_shaped (enc := enc) (C := Tryz.checked) (os := os) (X := fun w _ => laidMetH Tryz.prog Rows.attrNoneRow.laid w) false (World.laidAll Tryz.prog os Rows.attrNoneRow.laid) #[.agg #[.int .u8 0, .slice none 0 0]] 8 (World.laidAll_os _ _ _)
      (World.shaped_of_ZipB (by kernel_rfl) (by kernel_rfl)) (by kernel_rfl) (by kernel_rfl) (by kernel_rfl)
      (by rw [MakeChecks.laidMetH_plain _ _ _ (by kernel_rfl)]; exact laidMet_laidAll _ (by kernel_rfl) (by kernel_rfl))) ?_
  intro W base args ds gs before hval0 hW hL hsh
  have hval : ∀ (j : Nat) t v, Tryz.f3.params[j]? = some t → args[j]? = some v → Value.okWide Tryz.prog W .any base t v := hval0
  have hW' := hW
  obtain ⟨p, q, hA0, hV, rfl, _, _⟩ := hW
  have hA : DataW.TrodAll enc Tryz.prog W 0 (fun _ => true) true Tryz.f3.params.toList args.toList ds p := hA0
  rw [Tryz.params3] at hA hval
  obtain ⟨v0, vs0, d0, ds0, p0, q0, hargs, rfl, rfl, k0, r0⟩ := trodAll_cons hA
  obtain ⟨rfl, rfl, rfl⟩ := trodAll_nil r0
  obtain rfl : args = #[v0] := by cases args; simp_all
  obtain ⟨rfl, rfl⟩ := trodVars_none hV
  have lt0 : ∀ x ∈ p0, x.block < W.heap.size := by obtain ⟨m, hm⟩ := k0; exact DataW.trod_lt m _ _ _ hm
  have hw := hval 0 24 v0 rfl rfl
  simp only [Value.okWide, Tryz.underlying24] at hw
  obtain ⟨cs, rfl, hsz, ts, hts, _, hcell⟩ := hw
  rw [show Tryz.prog.cellTypes Tryz.prog.depth 24 = some [5, 22] by kernel_rfl] at hts
  injection hts with hts
  subst hts
  rw [show Tryz.prog.cellsOf 24 = 2 by kernel_rfl] at hsz
  obtain ⟨l⟩ := cs
  match l, hsz with
  | [a, b], _ =>
  obtain ⟨u0, hu0, c0⟩ := hcell 0 a rfl
  obtain rfl : 5 = u0 := by simpa using hu0
  obtain ⟨u1, hu1, c1⟩ := hcell 1 b rfl
  obtain rfl : 22 = u1 := by simpa using hu1
  obtain ⟨n, rfl⟩ := okWide_int (base := base) Tryz.underlying5 (by simpa only [Value.okWide, Tryz.underlying5] using c0)
  obtain ⟨ad, len, cap, rfl⟩ := okWide_slice (base := base) Tryz.underlying22 (by simpa only [Value.okWide, Tryz.underlying22] using c1)
  have hvl : VL (fun k => if k = 0 then some (Value.int .u8 n) else if k = 1 then some (Value.slice ad len cap) else none) (σ0 8) [.agg #[.chan (some 0), .chan (some 1)]] [.agg #[.int .u8 n, .slice ad len cap]] := by
    refine VL.cons (VR.agg rfl fun i v v' hv hv' => ?_) VL.nil
    match i with
    | 0 => simp at hv hv'; subst hv hv'; exact .raw rfl rfl
    | 1 => simp at hv hv'; subst hv hv'; exact .raw rfl rfl
    | i + 2 => simp at hv
  have hP : Run.C1.P = Tryz.prog := by kernel_rfl
  have hG : Run.C1.G = 8 := by kernel_rfl
  have hc := closed_true (C := Run.C1) (Run.ok1 _ W) Run.main (σ := σ0 8) (by rw [hP, hG]; exact hr0 hsh hL) hvl
  rw [hP] at hc
  refine hc.mono fun e W' ⟨he, w2, hal, bel⟩ => ?_
  subst he
  exact ⟨_, rfl, ChangeSpec.post_alike (W'' := w2) ⟨_, _, _, [], _, [], hW', trodAll_mk1 (shut_bool Tryz.underlying4 _), trodAll_cons_mk (Below.trod j1 (by kernel_rfl) (of_decide_eq_true (by kernel_rfl)) k0 bel lt0) trodAll_mk0, rfl, bel.frame _, fun h => by cases h⟩ hal⟩

end Go.Proofs.YtnaodplcionlhaaGreatDoor
