/- An argument that is a list of options or of texts, as it reads and as the walks ask it. -/
import Derived.Test.YtcmicndmaaaknaaG0
import Derived.Deep.Slices
import Derived.SliceStrings
import Derived.ChangeSame
namespace Go.Proofs.Ytcmicndmaaaknaa.G
open Go.RowKit Go.Proofs.YtcmicndmaaaknaaW.PrintWords
set_option linter.unusedVariables false
set_option linter.unusedSimpArgs false
open Go.Deep (open_slice)

def strD {H : Type} (s : ByteArray) : DataW H := .lit (.string s.data.toList)
def optD {H : Type} (o : S67) : DataW H := .agg [strD o.f0, strD o.f1]

theorem cells67 : Try.prog.cellsOf 67 = 2 := by kernel_rfl
theorem cells9 : Try.prog.cellsOf 9 = 1 := by kernel_rfl

theorem open_opt {H : Type} {enc : TypeId × Value → H} {w : World} {base : Nat} {spare : Nat → Bool} {held : Bool} {fuel : Nat} {cs : List Value} {x : DataW H × List MemPlace}
    (h : DataW.trod enc Try.prog w base spare held fuel 67 cs = some x) : ∃ o : S67, cs = [.string o.f0, .string o.f1] ∧ x = (optD o, []) := by
  obtain ⟨y0, y1, n, rfl, hl, h0, h1⟩ := ChangeShapes.trod_struct2 Try.underlying67 h
  rw [cells67] at hl
  match cs, hl with
  | [c0, c1], _ =>
    rw [show Try.prog.cellsOf 9 = 1 from cells9] at h0 h1
    obtain ⟨s0, e0, rfl, _⟩ := DataW.trod_string Try.underlying9 h0
    obtain ⟨s1, e1, rfl, _⟩ := DataW.trod_string Try.underlying9 h1
    simp at e0 e1
    subst e0 e1
    exact ⟨⟨s0, s1⟩, rfl, rfl⟩

theorem open_opts {H : Type} {enc : TypeId × Value → H} {w : World} {base : Nat} {spare : Nat → Bool} {held : Bool} {a : Option Addr} {len cap : Nat} {d : DataW H} {ps : List MemPlace}
    (h : DataW.Trod enc Try.prog w base spare held 23 (.slice a len cap) d ps) :
    ∃ l : List S67, l.length = len ∧ len ≤ cap ∧ Kd.C k67 w a len l ∧ ((d = .nil ∧ l = []) ∨ ∃ sp, d = .slice (l.map optD) sp) := by
  obtain ⟨fuel, hf⟩ := h
  rcases open_slice Try.underlying23 hf with ⟨hcs, hx⟩ | ⟨ad, len', cap', m, n, D, Pl, hcs, _, hlc, hm, hmm, hx, hel⟩
  · simp [Value.cells] at hcs
    obtain ⟨rfl, rfl, rfl⟩ := hcs
    injection hx with hx _
    exact ⟨[], rfl, Nat.le_refl _, Kd.C_nil _ _, .inl ⟨hx, rfl⟩⟩
  · simp [Value.cells] at hcs
    obtain ⟨rfl, rfl, rfl⟩ := hcs
    have hlm : len ≤ m := by rw [hmm]; split <;> omega
    have each : ∀ i, i < len → ∃ o : S67, D i = optD o ∧ ∀ j u, [Value.string o.f0, Value.string o.f1][j]? = some u → w.cell? (ad.add (i * 2 + j)) = some u := by
      intro i hi
      obtain ⟨cs', hc, ht⟩ := hel i (by omega)
      rw [cells67] at hc
      obtain ⟨o, rfl, ho⟩ := open_opt ht
      injection ho with ho _
      obtain ⟨_, _, hc2⟩ := World.cells?_some hc
      refine ⟨o, ho, fun j u hj => ?_⟩
      have hj2 : j < 2 := by
        have := (List.getElem?_eq_some_iff.1 hj).1
        simpa using this
      rw [← Addr.add_add]
      exact (hc2 j hj2).trans hj
    obtain ⟨f, hfD⟩ : ∃ f : Nat → S67, ∀ i, i < len → D i = optD (f i) ∧ ∀ j u, [Value.string (f i).f0, Value.string (f i).f1][j]? = some u → w.cell? (ad.add (i * 2 + j)) = some u :=
      ⟨fun i => if hi : i < len then Classical.choose (each i hi) else z67, fun i hi => by
        simp only [dif_pos hi]
        exact Classical.choose_spec (each i hi)⟩
    refine ⟨(List.range len).map f, by simp, hlc, ⟨by simp, by unfold maxLen at hm; omega, fun _ => ⟨ad, rfl, fun j p hj => ?_⟩⟩, .inr ⟨(List.range (m - len)).map (fun j => D (len + j)), ?_⟩⟩
    · rw [List.getElem?_map] at hj
      obtain ⟨i, hi, rfl⟩ := Option.map_eq_some_iff.1 hj
      obtain ⟨hlt, hi2⟩ := List.getElem?_eq_some_iff.1 hi
      rw [List.getElem_range] at hi2
      subst hi2
      rw [List.length_range] at hlt
      exact ⟨_, rfl, k67_mk w (f j), (hfD j hlt).2⟩
    · injection hx with hx _
      rw [hx, List.map_map]
      congr 1
      refine List.map_congr_left fun i hi => ?_
      exact (hfD i (List.mem_range.1 hi)).1

theorem open_texts {H : Type} {enc : TypeId × Value → H} {w : World} {base : Nat} {spare : Nat → Bool} {held : Bool} {a : Option Addr} {len cap : Nat} {d : DataW H} {ps : List MemPlace}
    (h : DataW.Trod enc Try.prog w base spare held 22 (.slice a len cap) d ps) :
    ∃ l : List ByteArray, l.length = len ∧ len ≤ cap ∧ Kd.C Kd.string w a len l ∧ ((d = .nil ∧ l = []) ∨ ∃ sp, d = .slice (l.map strD) sp) := by
  obtain ⟨fuel, hf⟩ := h
  rcases ChangeShapes.open_strings Try.underlying22 Try.underlying9 cells9 hf with ⟨hcs, hx⟩ | ⟨ad, len', cap', ss, hcs, _, hlc, hm, hss, hx, hcell, _⟩
  · simp [Value.cells] at hcs
    obtain ⟨rfl, rfl, rfl⟩ := hcs
    injection hx with hx _
    exact ⟨[], rfl, Nat.le_refl _, Kd.C_nil _ _, .inl ⟨hx, rfl⟩⟩
  · simp [Value.cells] at hcs
    obtain ⟨rfl, rfl, rfl⟩ := hcs
    have hlm : len ≤ ss.length := by rw [hss]; split <;> omega
    have hl : (ss.take len).length = len := by rw [List.length_take]; omega
    refine ⟨ss.take len, hl, hlc, Kd.C_of_reads (d := ByteArray.empty) (h1 := fun _ => rfl) ⟨hl, by unfold maxLen at hm; omega, fun _ => ⟨ad, rfl, fun j hj => ?_⟩⟩, .inr ⟨ChangeShapes.strs (ss.drop len), ?_⟩⟩
    · rw [hcell j (by omega)]
      congr 2
      simp only [List.getD]
      rw [List.getElem?_take, if_pos hj]
    · injection hx with hx _

end Go.Proofs.Ytcmicndmaaaknaa.G
