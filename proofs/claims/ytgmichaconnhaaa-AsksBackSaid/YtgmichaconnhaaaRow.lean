/- Rows: parts of rows, 'make', rows at a block. No statement of its own. -/
import Derived.Test.YtgmichaconnhaaaOwn
import Derived.Test.YtgmichaconnhaaaTag
namespace Go.Proofs.Ytgmichaconnhaaa
open Go.ChangeShapes Go.WideShapes Go.ChangeAt Go.RowKit
set_option linter.unusedVariables false

theorem Has.pre {w : World} {sz n : Nat} {a : Option Addr} {cap : Nat} {xs : List Value} (h : Has w sz (.slice a n cap) n xs) (m : Nat) (hm : m ≤ n) (ha : a ≠ none) : Has w sz (.slice a m cap) m (xs.take (m * sz)) := by
  obtain ⟨⟨hl, hnil⟩, a', cap', he, h1, h2, h3⟩ := h
  simp only [Value.slice.injEq] at he
  obtain ⟨rfl, -, rfl⟩ := he
  have hmul : m * sz ≤ n * sz := Nat.mul_le_mul_right _ hm
  refine ⟨⟨by rw [List.length_take]; omega, fun _ _ h => by simp only [Value.slice.injEq] at h; exact absurd h.1 ha⟩, a, cap, rfl, by omega, h2, fun hp => ?_⟩
  rw [List.length_take] at hp
  obtain ⟨b, off, e, hc⟩ := h3 (by omega)
  refine ⟨b, off, e, fun j u hu => hc j u ?_⟩
  rw [List.getElem?_take] at hu
  split at hu
  · exact hu
  · cases hu
theorem flat_take {α : Type} (f : α → List Value) (m : Nat) (hf : ∀ a, (f a).length = m) : ∀ (l : List α) (k : Nat), (l.flatMap f).take (k * m) = (l.take k).flatMap f
  | [], k => by simp
  | a :: t, 0 => by simp
  | a :: t, k + 1 => by
    rw [List.flatMap_cons, List.take_succ_cons, List.flatMap_cons, ← flat_take f m hf t k, List.take_append, hf, show (k + 1) * m - m = k * m by rw [Nat.succ_mul]; omega, List.take_of_length_le (by rw [hf, Nat.succ_mul]; omega)]
/-- 'make' of n elements of one cell. -/
theorem run_mk {P : Program} {t e : TypeId} {bytes : Nat} {z : Value} (hE : (P.info? e).map (fun i => (i.zero, i.size, i.bytes)) = some (some z, 1, bytes)) (ht : P.underlying t = some (.slice e)) (hz : z.cells = #[z]) (X : World) (n : Nat) (h : n * bytes ≤ 140737488355328) (hn : n ≤ 1000000) :
    (Instr.makeSlice t (.int .i64 (n : Int)) (.int .i64 (n : Int))).run P X = .ok (.slice (some ⟨X.heap.size, 0, none⟩) n n) (X.alloc (.cells (List.replicate n z).toArray e)) := by
  obtain ⟨i0, hi, hz0, hz1, hz2⟩ := info_parts hE
  rw [run_make X t e i0 z ht hi hz0 .i64 .i64 n n (by omega) (by omega) (by rw [hz2]; have h2 : ((bytes * n : Nat) : Int) ≤ 281474976710656 := by rw [Nat.mul_comm]; omega
                                                                            simpa using h2) (by omega)]
  simp only [Int.toNat_natCast, hz1]
  congr 3
  apply Array.ext
  · simp [madeCells, hz]
  · intro j h1 h2; simp [madeCells, hz, Nat.mod_one]
/-- A row at a block below B is kept where nothing below B has changed. -/
theorem owns_low {w w' : World} {base e sz n g cap B : Nat} {xs : List Value} (hown : w.ownsRow base e sz (.slice (some ⟨g, 0, none⟩) n cap) n xs) (hb : Below B w w') (hg : g < B) : w'.ownsRow base e sz (.slice (some ⟨g, 0, none⟩) n cap) n xs := by
  obtain ⟨hl, h⟩ := hown
  refine ⟨hl, ?_⟩
  rcases h with h | ⟨g', cap', cur, he, hg', hh, hn, hm, hs, ht⟩
  · exact .inl h
  · simp only [Value.slice.injEq, Option.some.injEq, Addr.mk.injEq, and_true, true_and] at he
    obtain ⟨rfl, rfl⟩ := he
    exact .inr ⟨g, cap, cur, rfl, hg', by rw [hb.block g hg]; exact hh, hn, hm, hs, ht⟩
theorem owns_block_at {w : World} {base e sz n g cap : Nat} {xs : List Value} (hown : w.ownsRow base e sz (.slice (some ⟨g, 0, none⟩) n cap) n xs) : ∃ cs, w.heap[g]? = some (.cells cs e (0, 0)) := by
  obtain ⟨hl, h⟩ := hown
  rcases h with ⟨h, _⟩ | ⟨g', cap', cur, he, hg', hh, _⟩
  · cases h
  · simp only [Value.slice.injEq, Option.some.injEq, Addr.mk.injEq, and_true, true_and] at he
    obtain ⟨rfl, rfl⟩ := he
    exact ⟨cur, hh⟩
theorem infoInt : (Try.prog.info? 3).map (fun i => (i.zero, i.size, i.bytes)) = some (some (.int .i64 0), 1, 8) := by kernel_rfl
theorem zeros_ints (n : Nat) : List.replicate n (Value.int .i64 0) = ints (List.replicate n 0) := by simp [ints]
end Go.Proofs.Ytgmichaconnhaaa
