/- Package seal: the model of a play of letters. -/
import Derived.Test.YtgidichmphniaaaSealO
namespace Go.Proofs.Ytgidichmphniaaa
set_option linter.unusedVariables false
set_option linter.unusedSimpArgs false

/-- A move; what it comes to. -/
structure Mv where
  kind : Int
  f : Int
  t : Int
  id : Int
  d : List Nat
structure Out where
  code : Int
  id : Int
  size : Int
  d : List Nat
def Mv.Ok (x : Mv) : Prop := (x.kind = 1 ∧ 0 ≤ x.f ∧ x.f ≤ 8 ∨ x.kind = 2) ∧ 0 ≤ x.t ∧ x.t ≤ 8 ∧ x.d.length ≤ 256
def Mv.ltr (x : Mv) : Ltr := ⟨x.f, x.t, x.d⟩
def Off.at' (o : Off) (id : Int) : Ltr := o.ls.getD id.toNat ⟨0, 0, []⟩
/-- What is answered, and the office behind it. -/
def Off.out (o : Off) (x : Mv) : Out :=
  if x.kind = 1 then ⟨0, o.ls.length, x.d.length, []⟩
  else if x.id < 0 ∨ (o.ls.length : Int) ≤ x.id then ⟨6, 0, 0, []⟩
  else if (o.at' x.id).t ≠ x.t then ⟨11, 0, 0, []⟩
  else if x.id < o.op (o.at' x.id).f (o.at' x.id).t then ⟨10, 0, 0, []⟩
  else ⟨0, x.id, (o.at' x.id).d.length, (o.at' x.id).d⟩
def Off.next (o : Off) (x : Mv) : Off :=
  if x.kind = 1 then ⟨o.ls ++ [x.ltr], o.op⟩
  else if x.id < 0 ∨ (o.ls.length : Int) ≤ x.id then o
  else if (o.at' x.id).t ≠ x.t then o
  else if x.id < o.op (o.at' x.id).f (o.at' x.id).t then o
  else ⟨o.ls, updW o.op (o.at' x.id).f (o.at' x.id).t (x.id + 1)⟩
def off0 : Off := ⟨[], fun _ _ => 0⟩
def offStep (s : Off × List Out) (x : Mv) : Off × List Out := (s.1.next x, s.2 ++ [s.1.out x])
def offFold (l : List Mv) : Off × List Out := l.foldl offStep (off0, [])
def sOuts (l : List Mv) : List Out := (offFold l).2
theorem offFold_take (l : List Mv) (k : Nat) (hk : k < l.length) : offFold (l.take (k + 1)) = offStep (offFold (l.take k)) l[k] := foldl_take _ _ _ _ hk
theorem offFold_len (l : List Mv) : ∀ k, k ≤ l.length → (offFold (l.take k)).2.length = k
  | 0, _ => rfl
  | k + 1, hk => by rw [offFold_take l k (by omega)]; simp [offStep, offFold_len l k (by omega)]
theorem sOuts_length (l : List Mv) : (sOuts l).length = l.length := by
  have := offFold_len l l.length (Nat.le_refl _)
  rwa [List.take_length] at this
theorem sOuts_get (l : List Mv) (i : Nat) (hi : i < l.length) : (sOuts l)[i]? = some ((offFold (l.take i)).1.out l[i]) := by
  have key : ∀ k, k ≤ l.length → i < k → (offFold (l.take k)).2[i]? = some ((offFold (l.take i)).1.out l[i]) := by
    intro k
    induction k with
    | zero => intro _ h; omega
    | succ k ih =>
      intro hk hik
      have hlen := offFold_len l k (by omega)
      rw [offFold_take l k (by omega)]
      simp only [offStep]
      by_cases h : i < k
      · rw [List.getElem?_append_left (by omega)]; exact ih (by omega) h
      · have : i = k := by omega
        subst this
        rw [List.getElem?_append_right (by omega), hlen, Nat.sub_self]; rfl
  have := key l.length (Nat.le_refl _) hi
  rwa [List.take_length] at this
theorem out_data_le {o : Off} (h : ∀ y ∈ o.ls, y.d.length ≤ 256) (x : Mv) : (o.out x).d.length ≤ 256 := by
  unfold Off.out
  split
  · simp
  · split
    · simp
    · next h1 =>
      split
      · simp
      · split
        · simp
        · have hlt : x.id.toNat < o.ls.length := by omega
          have e : o.at' x.id = o.ls[x.id.toNat] := by simp [Off.at', List.getD_eq_getElem?_getD, hlt]
          simp only [e]
          exact h _ (List.getElem_mem hlt)
end Go.Proofs.Ytgidichmphniaaa
