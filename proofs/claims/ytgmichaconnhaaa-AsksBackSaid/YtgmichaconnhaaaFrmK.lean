/- Package frame: the fields of asks; the library's Max. -/
import Derived.Test.YtgmichaconnhaaaFrmP
import Derived.Test.YtgmichaconnhaaaFrmA
namespace Go.Proofs.Ytgmichaconnhaaa
open Go.ChangeShapes Go.WideShapes Go.ChangeAt Go.RowKit
set_option linter.unusedVariables false
set_option linter.unusedSimpArgs false

def askF (l : List Int) : List (Int × Int) := l.map fun n => (21, n)
theorem askF_len (l : List Int) : (askF l).length = l.length := by simp [askF]
theorem askF_ok {l : List Int} (h : ∀ x ∈ l, 0 ≤ x ∧ x ≤ 1048576) (hl : l.length ≤ 40) : FieldsOk (askF l) := by
  refine ⟨by rw [askF_len]; exact hl, fun p hp => ?_⟩
  simp only [askF, List.mem_map] at hp
  obtain ⟨x, hx, rfl⟩ := hp
  have := h x hx
  have e : (2 : Int) ^ (Int.toNat 21) = 2097152 := by decide
  simp only [e]
  omega
theorem askF_snoc (l : List Int) (k : Nat) (hk : k < l.length) : askF (l.take (k + 1)) = askF (l.take k) ++ [(21, l[k])] := by
  rw [take_snoc l k hk]; unfold askF; rw [List.map_append]; rfl
theorem askF_size (l : List Int) : recSize (askF l) = (l.length * 21 + 7) / 8 := by
  unfold recSize
  congr 2
  unfold recBits askF
  induction l with
  | nil => rfl
  | cons a t ih => rw [List.map_cons, List.flatMap_cons, List.length_append, ih, fieldBits_length, List.length_cons, Nat.succ_mul]; simp only [Int.toNat]; omega
set_option maxRecDepth 100000 in
set_option maxHeartbeats 2000000 in
theorem cMax (v : Value) (l : List Int) (w : World) (h : Has w 1 v l.length (ints l)) (h0 : 0 < l.length) (hl : ∀ x ∈ l, 0 ≤ x ∧ x ≤ 1048576) :
    Calls Try.prog 40 #[v] w fun e w' => ∃ x : Int, (e = .returned (.int .i64 x) ∧ x ≤ 1048576) ∧ Below w.heap.size w w' := by
  obtain ⟨⟨hl0, _⟩, a, cap, rfl, h1, h2, hc⟩ := h
  obtain ⟨b, o, rfl, hcc⟩ := hc (by simp; omega)
  have hcell : Hid (∀ k (hk : k < l.length), w.cell? ⟨b, o + k, none⟩ = some (.int .i64 l[k])) := fun k hk => hcc k _ (ints_get l k hk)
  have c0 := hcell.out 0 h0
  rw [Nat.add_zero] at c0
  have HL := Lib.hid hl
  have hx0 := hl _ (List.getElem_mem h0)
  have h0z : (0 : Int) < (l.length : Int) := by omega
  have hz1 : decide ((l.length : Int) < 1) = false := by simp; omega
  unfold maxLen at h2
  generalize l[0] = x0 at *
  clear hc hcc hl
  go_enter Try.func40, Try.ntmps40
  go_wp2_with fail
  go_loopw [3, 4] (fun m i wr => ∃ (k : Nat) (x : Int), 1 ≤ k ∧ k ≤ l.length ∧ i = .int .i64 k ∧ m = .int .i64 x ∧ 0 ≤ x ∧ x ≤ 1048576 ∧ Hid (Below w.heap.size w wr)) (fun _ i _ => l.length - (intOf i).toNat)
  case atStart => exact ⟨1, x0, by omega, by omega, rfl, rfl, hx0.1, hx0.2, Below.refl _ _⟩
  case round =>
    obtain ⟨k, x, hk1, hk, rfl, rfl, hx1, hx2, HB⟩ := hrel
    by_cases hlt : k < l.length
    · have hltz : (k : Int) < (l.length : Int) := by omega
      have z0 := cell_on HB.out (hcell.out k hlt)
      have hy := HL.out _ (List.getElem_mem hlt)
      generalize l[k] = y at *
      go_wp2_with fail
      all_goals
        go_roundw
        case rel => first | exact ⟨k + 1, _, by omega, by omega, by go_num, rfl, by omega, by omega, HB⟩ | exact ⟨k + 1, y, by omega, by omega, by go_num, rfl, by omega, by omega, HB⟩ | exact ⟨k + 1, x, by omega, by omega, by go_num, rfl, by omega, by omega, HB⟩
        case measure => first | (simp [intOf]; done) | (simp [intOf]; omega)
    · obtain rfl : k = l.length := by omega
      go_wp2_with fail
      go_ret
      exact ⟨x, ⟨rfl, hx2⟩, HB.out⟩
end Go.Proofs.Ytgmichaconnhaaa
