/- The state on its way (a struct of six cells in a block of its own): what holds of it, and getopt's method next. -/
import Derived.Test.YtcmicndmaaaknaaHContains
import Derived.Lib.Hide
import Derived.Outline
namespace Go.Proofs.Ytcmicndmaaaknaa.G
open Go.RowKit Go.Proofs.YtcmicndmaaaknaaW.PrintWords
set_option linter.unusedVariables false
set_option linter.unusedSimpArgs false

/-- the state in block B, in a call that began in w0 -/
structure St (w0 w : World) (B : Nat) (fi : Bool) (lb tb : ByteArray) (A : Option Addr) (n c : Nat) (ov rv : Value) (args : List ByteArray) (os : List S67) (rs : List ByteArray) : Prop where
  blk : w.heap[B]? = some (.cells #[.bool fi, .string lb, .string tb, .slice A n c, ov, rv] 58 (0, 0))
  len : args.length = n
  rd : Kd.C Kd.string w0 A n args
  cap : n ≤ c
  op : Kd.R k67 67 w w0.heap.size (fun _ => True) ov os
  re : Kd.R Kd.string 9 w w0.heap.size (fun _ => True) rv rs
  bel : Below w0.heap.size w0 w
  base : w0.heap.size ≤ B

section
variable {w0 w w1 : World} {B : Nat} {fi : Bool} {lb tb : ByteArray} {A : Option Addr} {n c : Nat} {ov rv : Value} {args : List ByteArray} {os : List S67} {rs : List ByteArray}
theorem St.below (h : St w0 w B fi lb tb A n c ov rv args os rs) (hb : Below w.heap.size w w1) : St w0 w1 B fi lb tb A n c ov rv args os rs :=
  ⟨blk_below h.blk hb, h.len, h.rd, h.cap, Kd.R_below h.op hb, Kd.R_below h.re hb, below_then h.bel h.bel.size hb, h.base⟩
theorem St.drewN (h : St w0 w B fi lb tb A n c ov rv args os rs) (k : Nat) : St w0 (w.drewN k) B fi lb tb A n c ov rv args os rs :=
  h.below (pw_below_drewN (Below.refl _ _) k)
theorem St.setArgs (h : St w0 w B fi lb tb A n c ov rv args os rs) {A' : Option Addr} {n' c' : Nat} {args' : List ByteArray} (hr : Kd.C Kd.string w0 A' n' args') (hl : args'.length = n') (hc : n' ≤ c') :
    St w0 (w.setCell ⟨B, 3, none⟩ (.slice A' n' c')) B fi lb tb A' n' c' ov rv args' os rs :=
  ⟨blk_put h.blk 3 _ rfl, hl, hr, hc, Kd.R_set h.op h.blk (by decide) 3 _, Kd.R_set h.re h.blk (by decide) 3 _, h.bel.setCell (p := ⟨B, 3, none⟩) h.base _, h.base⟩
end

theorem add_zero_ (a : Addr) : a.add 0 = a := by
  cases a
  unfold Addr.add
  split <;> simp_all

theorem next_nil (w0 w : World) (B : Nat) (fi : Bool) (lb tb : ByteArray) (A : Option Addr) (c : Nat) (ov rv : Value) (os : List S67) (rs : List ByteArray) (h : St w0 w B fi lb tb A 0 c ov rv [] os rs) :
    Calls Try.prog 27 #[.pointer (some ⟨B, 0, none⟩)] w fun e w' => e = .returned (.tuple #[.string (mkB []), .bool false]) ∧ Drawn0 w w' := by
  have ca := blk_cell h.blk 3
  simp at ca
  clear h
  go_enter Try.func27, Try.ntmps27
  go_wp2
  go_ret2
  exact ⟨rfl, Drawn0.refl _⟩

set_option maxHeartbeats 1000000 in
theorem next_cons (w0 w : World) (B : Nat) (fi : Bool) (lb tb : ByteArray) (A : Option Addr) (n c : Nat) (ov rv : Value) (x : ByteArray) (xs : List ByteArray) (os : List S67) (rs : List ByteArray) (h : St w0 w B fi lb tb A n c ov rv (x :: xs) os rs) :
    Calls Try.prog 27 #[.pointer (some ⟨B, 0, none⟩)] w fun e w' => e = .returned (.tuple #[.string x, .bool true]) ∧ (∃ A' n' c', St w0 w' B fi lb tb A' n' c' ov rv xs os rs) ∧ ∀ k, k ≠ B → w'.heap[k]? = w.heap[k]? := by
  have hl := h.len
  have hn : 0 < n := by rw [← hl]; simp
  obtain ⟨ad, e0, hx⟩ := Kd.at_string h.rd 0 (Int.le_refl _) (by omega)
  have e1 : rdOf ByteArray.empty (x :: xs) 0 = x := rfl
  rw [e1] at hx
  have hx2 := (h.bel.cell (World.block_lt_of_cell? w0 _ hx)).trans hx
  cases e0
  obtain ⟨i0, hi, _, hsz, _⟩ := info_parts info9
  obtain ⟨A', hcut, hA, hC⟩ := print_drop_of (P := Try.prog) Value.string (⟨#[]⟩ : ByteArray) 22 9 .i64 Try.underlying22 hi hsz (some ad) c (x :: xs) 1 (by omega) (by simp only [List.length_cons]; omega) (by rw [hl]; exact h.cap)
  have hr : Kd.C Kd.string w0 A' xs.length xs := Kd.C_of_reads (h1 := fun _ => rfl) (hA _ (Kd.reads_of_C (by rw [hl]; exact h.rd)))
  simp only [List.drop_one, List.tail_cons, Int.toNat_one] at hcut hC
  rw [hl] at hcut
  have hfin := Aside0.mk (h.setArgs hr rfl hC)
  have ca := blk_cell h.blk 3
  have fa := blk_frozen h.blk 3
  simp at ca
  have hnb : ((n : Int) == 0) = false := by rw [beq_eq_false_iff_ne]; omega
  have HR := Aside0.mk hr
  simp only [Int.toNat_zero] at hx2
  rw [add_zero_] at hx2
  clear h hr hl hA hC hi hsz hx e1
  go_enter Try.func27, Try.ntmps27
  go_wp2
  go_ret2
  exact ⟨rfl, ⟨_, _, _, hfin.out⟩, fun k hk => Below.heap_setCell _ _ _ _ hk⟩

/-- next at whatever is left -/
theorem next_any (w0 w : World) (B : Nat) (fi : Bool) (lb tb : ByteArray) (A : Option Addr) (n c : Nat) (ov rv : Value) (args : List ByteArray) (os : List S67) (rs : List ByteArray) (h : St w0 w B fi lb tb A n c ov rv args os rs) :
    Calls Try.prog 27 #[.pointer (some ⟨B, 0, none⟩)] w fun e w' => ∃ (x : ByteArray) (more : Bool) (xs : List ByteArray) (A' : Option Addr) (n' c' : Nat), e = .returned (.tuple #[.string x, .bool more]) ∧
      args = (if more then x :: xs else []) ∧ (more = false → xs = []) ∧ St w0 w' B fi lb tb A' n' c' ov rv xs os rs ∧ ∀ k, k ≠ B → w'.heap[k]? = w.heap[k]? := by
  cases args with
  | nil =>
    obtain rfl : n = 0 := by rw [← h.len]; rfl
    refine (next_nil w0 w B fi lb tb A c ov rv os rs h).mono ?_
    rintro e w' ⟨rfl, ⟨nd, rfl⟩⟩
    exact ⟨_, false, [], A, 0, c, rfl, rfl, fun _ => rfl, h.drewN nd, fun _ _ => rfl⟩
  | cons x xs =>
    refine (next_cons w0 w B fi lb tb A n c ov rv x xs os rs h).mono ?_
    rintro e w' ⟨rfl, ⟨A', n', c', hs⟩, hf⟩
    exact ⟨x, true, xs, A', n', c', rfl, rfl, fun h => (by cases h), hs, hf⟩

end Go.Proofs.Ytcmicndmaaaknaa.G
