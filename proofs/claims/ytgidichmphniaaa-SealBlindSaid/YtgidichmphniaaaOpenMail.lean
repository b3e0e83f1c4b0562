/- A '[]Mail' argument. -/
import Derived.Test.YtgidichmphniaaaOpenR
import Derived.Test.YtgidichmphniaaaOpenB
import Derived.Test.YtgidichmphniaaaLetters
namespace Go.Proofs.Ytgidichmphniaaa
open Go.ChangeShapes Go.WideShapes Go.ChangeAt Go.RowKit Go.Joins Go.Deep
set_option linter.unusedVariables false
set_option linter.unusedSimpArgs false
theorem both_of {α β : Type} {R : α → β → Prop} : ∀ (l : List α), (∀ a ∈ l, ∃ b, R a b) → ∃ m : List β, Both R l m
  | [], _ => ⟨[], Both.nil _⟩
  | a :: t, h => by
    obtain ⟨m, hm⟩ := both_of t fun x hx => h x (List.mem_cons_of_mem _ hx)
    obtain ⟨b, hb⟩ := h a (List.mem_cons_self ..)
    refine ⟨b :: m, by simp [hm.1], fun i x y hx hy => ?_⟩
    cases i with
    | zero => simp at hx hy; subst hx; subst hy; exact hb
    | succ i => simp at hx hy; exact hm.2 i x y hx hy
set_option maxRecDepth 100000 in
theorem open_mails {H : Type} {enc : TypeId × Value → H} {W : World} {sp : Nat → Bool} {base : Nat} {v : Value} {d : DataW H} {ps : List MemPlace}
    (hval : Value.okWide Try.prog W .any base 22 v) (h : DataW.Trod enc Try.prog W 0 sp true 22 v d ps) : ∃ ml : List ML, ∃ l : List Ml, Has W 5 v l.length (mls ml) ∧ Both (MlAt W) ml l := by
  obtain ⟨ml, h1, h2⟩ := open_row ML.cells (fun a => ∃ b, MlAt W a b) 5 ML.cells_length (by omega) Try.underlying22 (by kernel_rfl) (fun n cs y hl hr => by
    obtain ⟨_, n', hf⟩ := struct_fields Try.underlying43 (by kernel_rfl) (by kernel_rfl) hr
    match cs, hl with
    | [c0, c1, c2, c3, c4], _ =>
      obtain ⟨y0, h0⟩ := hf 0 _ c0 rfl rfl
      obtain ⟨y1, h1⟩ := hf 1 _ c1 rfl rfl
      obtain ⟨y2, h2⟩ := hf 2 _ c2 rfl rfl
      obtain ⟨y3, h3⟩ := hf 3 _ c3 rfl rfl
      obtain ⟨y4, h4⟩ := hf 4 _ c4 rfl rfl
      obtain ⟨a, rfl⟩ := bool_of Try.underlying4 h0
      obtain ⟨b, rfl⟩ := int_of Try.underlying3 h1
      obtain ⟨c, rfl⟩ := int_of Try.underlying3 h2
      obtain ⟨e, rfl⟩ := int_of Try.underlying3 h3
      obtain ⟨bs, hb, _⟩ := open_cells (fun b : Nat => [Value.int .u8 (b : Int)]) (fun b => b < 256) 1 (fun _ => rfl) (by decide) Try.underlying30 (by kernel_rfl) (read_u8 Try.underlying5) h4
      rw [u8s_flat] at hb
      exact ⟨⟨a, b, c, e, c4⟩, rfl, ⟨a, b, c, e, bs⟩, rfl, rfl, rfl, rfl, hb⟩) hval h
  obtain ⟨l, hl⟩ := both_of ml h2
  exact ⟨ml, l, by rw [← hl.1]; exact h1, hl⟩
end Go.Proofs.Ytgidichmphniaaa
