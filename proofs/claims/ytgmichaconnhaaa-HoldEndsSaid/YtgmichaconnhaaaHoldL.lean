/- Package hold: what a shelf does, in plain Lean. -/
import Derived.Test.YtgmichaconnhaaaOwn
import Derived.Test.YtgmichaconnhaaaTag
namespace Go.Proofs.Ytgmichaconnhaaa
set_option linter.unusedVariables false
set_option linter.unusedSimpArgs false

structure Ord where
  kind : Int
  count : Int
  life : Int
  id : Int
structure Hd where
  id : Int
  count : Int
  life : Int
structure Shf where
  free : Int
  used : Int
  made : Int
  hs : List Hd
structure Stk where
  code : Int
  id : Int
  free : Int
  held : Int
  used : Int
def heldL (l : List Hd) : Int := (l.map (·.count)).sum
def Shf.held (s : Shf) : Int := heldL s.hs
def shf0 : Shf := ⟨0, 0, 0, []⟩
/-- One tick less. -/
def Hd.dec (h : Hd) : Hd := ⟨h.id, h.count, h.life - 1⟩
def Hd.over (h : Hd) : Bool := h.life == 0
def overL (l : List Hd) : Int := heldL (l.filter Hd.over)
def Shf.ticked (s : Shf) : Shf :=
  ⟨s.free + overL (s.hs.map Hd.dec), s.used, s.made, (s.hs.map Hd.dec).filter (fun h => !h.over)⟩
def Shf.at' (s : Shf) (i : Nat) : Int := (s.hs.map (·.count)).getD i 0
/-- The place of a hold among the open ones. -/
def Shf.place (s : Shf) (id : Int) : Option Nat := s.hs.findIdx? (fun h => h.id == id)
/-- What an order comes to: the id, the code, and the shelf behind it. -/
def Shf.order (s : Shf) (o : Ord) : Int × Int × Shf :=
  if (o.kind = 1 ∨ o.kind = 2 ∨ o.kind = 3 ∨ o.kind = 6) ∧ ¬ (1 ≤ o.count ∧ o.count ≤ 1048576) then (0, 2, s)
  else if o.kind = 1 then
    if 1048576 < s.free + s.held + s.used + o.count then (0, 12, s) else (0, 0, { s with free := s.free + o.count })
  else if o.kind = 2 then
    if s.free < o.count then (0, 9, s) else (0, 0, { s with free := s.free - o.count, used := s.used + o.count })
  else if o.kind = 6 then
    if s.used < o.count then (0, 9, s) else (0, 0, { s with free := s.free + o.count, used := s.used - o.count })
  else if o.kind = 3 then
    if o.life < 1 ∨ 20 < o.life then (0, 2, s)
    else if s.hs.length = 4 then (0, 8, s)
    else if s.free < o.count then (0, 9, s)
    else (s.made + 1, 0, ⟨s.free - o.count, s.used, s.made + 1, s.hs ++ [⟨s.made + 1, o.count, o.life⟩]⟩)
  else if o.kind = 4 ∨ o.kind = 5 then
    if o.id < 1 ∨ s.made < o.id then (0, 6, s)
    else match s.place o.id with
      | none => (0, 10, s)
      | some i =>
        if o.kind = 4 then (0, 0, { s with used := s.used + s.at' i, hs := s.hs.eraseIdx i })
        else (0, 0, { s with free := s.free + s.at' i, hs := s.hs.eraseIdx i })
  else if o.kind = 7 then (0, 0, s.ticked)
  else (0, 3, s)
def Shf.next (s : Shf) (o : Ord) : Shf := (s.order o).2.2
def Shf.out (s : Shf) (o : Ord) : Stk := ⟨(s.order o).2.1, (s.order o).1, (s.next o).free, (s.next o).held, (s.next o).used⟩
def shfStep (s : Shf × List Stk) (o : Ord) : Shf × List Stk := (s.1.next o, s.2 ++ [s.1.out o])
def shfFold (l : List Ord) : Shf × List Stk := l.foldl shfStep (shf0, [])
def hOuts (l : List Ord) : List Stk := (shfFold l).2

/-- What always holds of a shelf: nothing below 0, all within what there may be; at most four are open; their numbers differ and are among those that were made. -/
structure Shf.Ok (s : Shf) : Prop where
  free : 0 ≤ s.free
  used : 0 ≤ s.used
  sum : s.free + s.held + s.used ≤ 1048576
  made : 0 ≤ s.made
  few : s.hs.length ≤ 4
  hs : ∀ h ∈ s.hs, 1 ≤ h.id ∧ h.id ≤ s.made ∧ 1 ≤ h.count ∧ 1 ≤ h.life ∧ h.life ≤ 20
  sorted : s.hs.Pairwise (fun a b => a.id < b.id)
theorem heldL_nil : heldL [] = 0 := rfl
theorem heldL_cons (h : Hd) (l : List Hd) : heldL (h :: l) = h.count + heldL l := by simp [heldL]
theorem heldL_append (l m : List Hd) : heldL (l ++ m) = heldL l + heldL m := by
  induction l with
  | nil => simp [heldL]
  | cons a l ih => rw [List.cons_append, heldL_cons, heldL_cons, ih]; omega
theorem heldL_dec (l : List Hd) : heldL (l.map Hd.dec) = heldL l := by
  induction l with
  | nil => rfl
  | cons a l ih => rw [List.map_cons, heldL_cons, heldL_cons, ih]; rfl
theorem heldL_nonneg {l : List Hd} (h : ∀ x ∈ l, 0 ≤ x.count) : 0 ≤ heldL l := by
  induction l with
  | nil => exact Int.le_refl _
  | cons a l ih =>
    rw [heldL_cons]
    have h1 := h a List.mem_cons_self
    have h2 := ih fun x hx => h x (List.mem_cons_of_mem _ hx)
    omega
theorem heldL_split (l : List Hd) : overL l + heldL (l.filter (fun h => !h.over)) = heldL l := by
  unfold overL
  induction l with
  | nil => rfl
  | cons a l ih =>
    by_cases c : a.over = true
    · have c2 : (!a.over) = false := by simp [c]
      rw [List.filter_cons_of_pos c, List.filter_cons_of_neg (by simp [c]), heldL_cons, heldL_cons]; omega
    · rw [List.filter_cons_of_neg c, List.filter_cons_of_pos (by simp [c]), heldL_cons, heldL_cons]; omega
theorem heldL_erase : ∀ (l : List Hd) (i : Nat), heldL (l.eraseIdx i) + (l.map (·.count)).getD i 0 = heldL l
  | [], i => by simp [heldL]
  | a :: l, 0 => by simp [heldL]; omega
  | a :: l, i + 1 => by
    have := heldL_erase l i
    rw [List.eraseIdx_cons_succ, heldL_cons, heldL_cons]
    simp only [List.map_cons, List.getD_cons_succ]
    omega
theorem Shf.Ok.nonneg {s : Shf} (h : s.Ok) : 0 ≤ s.held := heldL_nonneg fun x hx => by have := (h.hs x hx).2.2.1; omega
theorem over_nonneg {s : Shf} (h : s.Ok) : 0 ≤ overL (s.hs.map Hd.dec) := heldL_nonneg fun x hx => by
  have hx := (List.mem_filter.1 hx).1
  obtain ⟨y, hy, rfl⟩ := List.mem_map.1 hx
  have := (h.hs y hy).2.2.1
  simp only [Hd.dec]; omega
theorem pw_map_dec {l : List Hd} (h : l.Pairwise (fun a b => a.id < b.id)) : (l.map Hd.dec).Pairwise (fun a b => a.id < b.id) := by
  rw [List.pairwise_map]; exact h
theorem ticked_ok {s : Shf} (h : s.Ok) : s.ticked.Ok := by
  have h1 := heldL_split (s.hs.map Hd.dec)
  rw [heldL_dec] at h1
  have h2 := over_nonneg h
  have h3 := h.sum
  have h4 := h.free
  have h5 : s.held = heldL s.hs := rfl
  refine ⟨by simp only [Shf.ticked]; omega, h.used, by simp only [Shf.ticked, Shf.held]; omega, h.made, ?_, fun x hx => ?_, ?_⟩
  · have := List.length_filter_le (fun h : Hd => !h.over) (s.hs.map Hd.dec)
    rw [List.length_map] at this
    exact Nat.le_trans this h.few
  · obtain ⟨hx, ho⟩ := List.mem_filter.1 hx
    obtain ⟨y, hy, rfl⟩ := List.mem_map.1 hx
    obtain ⟨a, b, c, d, e⟩ := h.hs y hy
    have : ¬ (y.life - 1 = 0) := by simpa [Hd.over, Hd.dec] using ho
    simp only [Hd.dec, Shf.ticked]
    exact ⟨a, b, c, by omega, by omega⟩
  · exact (pw_map_dec h.sorted).sublist List.filter_sublist
theorem erase_ok {s : Shf} (h : s.Ok) (i : Nat) (f u : Int) (hf : 0 ≤ f) (hu : 0 ≤ u) (hs : f + u = s.free + s.used + s.at' i) : Shf.Ok ⟨f, u, s.made, s.hs.eraseIdx i⟩ := by
  have h1 := heldL_erase s.hs i
  have h3 := h.sum
  have h5 : s.held = heldL s.hs := rfl
  have h6 : s.at' i = (s.hs.map (·.count)).getD i 0 := rfl
  refine ⟨hf, hu, by simp only [Shf.held]; omega, h.made, Nat.le_trans (List.eraseIdx_sublist _ _).length_le h.few, fun x hx => h.hs x ((List.eraseIdx_sublist _ _).mem hx), h.sorted.sublist (List.eraseIdx_sublist _ _)⟩
theorem next_ok {s : Shf} (h : s.Ok) (o : Ord) : (s.next o).Ok := by
  have h3 := h.sum
  have h4 := h.free
  have h7 := h.used
  have h8 := h.nonneg
  have h9 := h.made
  unfold Shf.next Shf.order
  by_cases c0 : (o.kind = 1 ∨ o.kind = 2 ∨ o.kind = 3 ∨ o.kind = 6) ∧ ¬ (1 ≤ o.count ∧ o.count ≤ 1048576)
  · rw [if_pos c0]; exact h
  rw [if_neg c0]
  by_cases c1 : o.kind = 1
  · rw [if_pos c1]
    split
    · exact h
    · exact ⟨by simp only; omega, h.used, by simp only [Shf.held] at *; omega, h.made, h.few, h.hs, h.sorted⟩
  rw [if_neg c1]
  by_cases c2 : o.kind = 2
  · rw [if_pos c2]
    split
    · exact h
    · exact ⟨by simp only; omega, by simp only; omega, by simp only [Shf.held] at *; omega, h.made, h.few, h.hs, h.sorted⟩
  rw [if_neg c2]
  by_cases c3 : o.kind = 6
  · rw [if_pos c3]
    split
    · exact h
    · exact ⟨by simp only; omega, by simp only; omega, by simp only [Shf.held] at *; omega, h.made, h.few, h.hs, h.sorted⟩
  rw [if_neg c3]
  by_cases c4 : o.kind = 3
  · rw [if_pos c4]
    split
    · exact h
    split
    · exact h
    split
    · exact h
    · next d1 d2 d3 =>
      have hf := h.few
      refine ⟨by simp only; omega, h.used, ?_, by simp only; omega, by simp; omega, fun x hx => ?_, ?_⟩
      · simp only [Shf.held] at *
        simp only [heldL_append, heldL_cons, heldL_nil]; omega
      · rcases List.mem_append.1 hx with hx | hx
        · obtain ⟨a, b, c⟩ := h.hs x hx
          exact ⟨a, by simp only; omega, c⟩
        · simp at hx; subst hx
          simp only; omega
      · rw [List.pairwise_append]
        refine ⟨h.sorted, by simp, fun a ha b hb => ?_⟩
        simp at hb; subst hb
        have := (h.hs a ha).2.1
        simp only; omega
  rw [if_neg c4]
  by_cases c5 : o.kind = 4 ∨ o.kind = 5
  · rw [if_pos c5]
    split
    · exact h
    cases hp : s.place o.id with
    | none => exact h
    | some i =>
      have ha : 0 ≤ s.at' i := by
        unfold Shf.at'
        rw [List.getD_eq_getElem?_getD, List.getElem?_map]
        cases hi : s.hs[i]? with
        | none => simp
        | some x => have := (h.hs x (List.mem_of_getElem? hi)).2.2.1; simp; omega
      simp only
      split
      · exact erase_ok h i _ _ h4 (by omega) (by omega)
      · exact erase_ok h i _ _ (by omega) h7 (by omega)
  rw [if_neg c5]
  split
  · exact ticked_ok h
  · exact h
theorem shf0_ok : shf0.Ok := ⟨Int.le_refl _, Int.le_refl _, by decide, Int.le_refl _, by decide, fun h hh => by simp [shf0] at hh, List.Pairwise.nil⟩
theorem shfFold_take (l : List Ord) (k : Nat) (hk : k < l.length) : shfFold (l.take (k + 1)) = shfStep (shfFold (l.take k)) l[k] := foldl_take _ _ _ _ hk
theorem shfFold_len (l : List Ord) : ∀ k, k ≤ l.length → (shfFold (l.take k)).2.length = k
  | 0, _ => rfl
  | k + 1, hk => by rw [shfFold_take l k (by omega)]; simp [shfStep, shfFold_len l k (by omega)]
theorem hOuts_length (l : List Ord) : (hOuts l).length = l.length := by
  have := shfFold_len l l.length (Nat.le_refl _)
  rwa [List.take_length] at this
theorem hOuts_get (l : List Ord) (i : Nat) (hi : i < l.length) : (hOuts l)[i]? = some ((shfFold (l.take i)).1.out l[i]) := by
  have key : ∀ k, k ≤ l.length → i < k → (shfFold (l.take k)).2[i]? = some ((shfFold (l.take i)).1.out l[i]) := by
    intro k
    induction k with
    | zero => intro _ h; omega
    | succ k ih =>
      intro hk hik
      have hlen := shfFold_len l k (by omega)
      rw [shfFold_take l k (by omega)]
      simp only [shfStep]
      by_cases h : i < k
      · rw [List.getElem?_append_left (by omega)]; exact ih (by omega) h
      · have : i = k := by omega
        subst this
        rw [List.getElem?_append_right (by omega), hlen, Nat.sub_self]; rfl
  have := key l.length (Nat.le_refl _) hi
  rwa [List.take_length] at this
theorem fold_ok (l : List Ord) : ∀ k, k ≤ l.length → (shfFold (l.take k)).1.Ok
  | 0, _ => shf0_ok
  | k + 1, hk => by rw [shfFold_take l k (by omega)]; exact next_ok (fold_ok l k (by omega)) _
theorem next_made (s : Shf) (o : Ord) : s.made ≤ (s.next o).made ∧ (s.next o).made ≤ s.made + 1 := by
  unfold Shf.next Shf.order
  repeat' split
  all_goals first | (simp only [Shf.ticked]; omega) | (simp only; omega)
theorem fold_made (l : List Ord) : ∀ k, k ≤ l.length → (shfFold (l.take k)).1.made ≤ k
  | 0, _ => Int.le_refl _
  | k + 1, hk => by
    rw [shfFold_take l k (by omega)]
    have h1 := (next_made (shfFold (l.take k)).1 l[k]).2
    have h2 := fold_made l k (by omega)
    simp only [shfStep]; omega
end Go.Proofs.Ytgmichaconnhaaa
