/- Texts that the claim imports, laid together: CrB CrC CrD. No statement of their own. -/
import Derived.Conc.CrowdComm
import Derived.Conc.Quits
import Derived.Conc.Pipeline3
import Derived.Conc.RecvAny
import Derived.Test.YtkodpijedinanaaKac
namespace Go.Proofs.Ytkodpijedinanaa.Sim
open Go Go.Conc
set_option linter.unusedVariables false
set_option linter.unusedSimpArgs false

/-- Whose which blocks are: one's own, the shared that one may read. -/
abbrev Shr := Nat → Blk × Blk
structure Sep (A : Shr) (sz lo : Nat) : Prop where
  own : ∀ γ δ b, (A γ).1 b → γ ≠ δ → ¬ (A δ).1 b
  sh : ∀ γ δ b, (A γ).1 b → ¬ (A δ).2 b
  sub : ∀ γ b, (A γ).2 b → (A 0).2 b
  lt : ∀ γ b, (A γ).1 b ∨ (A γ).2 b → b < sz
  lo : ∀ γ b, (A γ).1 b → lo ≤ b
structure TInv (t : Trace) (A : Shr) (sz : Nat) (live : Nat → Prop) : Prop where
  clean : ∀ said, ¬ Race said t
  words : Wordless t
  low : ∀ i x, touchAt t i = some x → (∃ p : Addr, x.loc = .cell p ∧ p.block < sz) ∨ (∃ r, x.loc = .obj r ∧ x.write = false)
  know : ∀ γ i x (p : Addr), touchAt t i = some x → x.loc = .cell p → ((A γ).1 p.block ∨ ((A γ).2 p.block ∧ x.write = true)) → Knows t γ i
  done : ∀ i op x, t[i]? = some op → op.act.touch? = some x → op.g = 0 ∨ Knows t 0 i ∨ live op.g
def setA (A : Shr) (γ : Nat) (o s : Blk) : Shr := fun δ => if δ = γ then (o, s) else A δ
theorem setA_same (A : Shr) (γ : Nat) (o s : Blk) : setA A γ o s γ = (o, s) := by simp [setA]
theorem setA_ne (A : Shr) {γ δ : Nat} (o s : Blk) (h : δ ≠ γ) : setA A γ o s δ = A δ := by simp [setA, h]
theorem touchAt_cases {t u : Trace} {i : Nat} {x : Touch} (h : touchAt (t ++ u) i = some x) : (i < t.size ∧ touchAt t i = some x) ∨ (t.size ≤ i ∧ ∃ op ∈ u, (t ++ u)[i]? = some op ∧ op.act.touch? = some x) := by
  obtain ⟨op, hop, hx⟩ := touch_of h
  rcases getElem?_append_cases hop with ⟨hi, hop'⟩ | ⟨hi, hu⟩
  · exact .inl ⟨hi, by rw [touchAt_of hop']; exact hx⟩
  · exact .inr ⟨hi, op, hu, hop, hx⟩
theorem ofEvents_mem {g : Nat} {fn : FuncId} {pos : String} {es : Array Event} {op : MemOp} (h : op ∈ MemOp.ofEvents g fn pos es) : ∃ e ∈ es, op = { g, fn, pos, act := .ofEvent e } := by
  rw [ofEvents_eq] at h
  obtain ⟨e, he, rfl⟩ := Array.mem_map.1 h
  exact ⟨e, he, rfl⟩
/-- What an allowed event touches. -/
theorem EvIn.touch {Own Sh : Blk} {e : Event} (h : EvIn Own Sh e) {x : Touch} (hx : (MemAct.ofEvent e).touch? = some x) : (∃ p : Addr, x.loc = .cell p ∧ (Own p.block ∨ (Sh p.block ∧ x.write = false))) ∨ (∃ r, x.loc = .obj r ∧ x.write = false) := by
  cases h with
  | cell p wr h =>
    simp only [MemAct.ofEvent, MemAct.touch?, Option.some.injEq] at hx
    subst hx
    exact .inl ⟨p, rfl, h⟩
  | obj r s =>
    have : MemAct.ofEvent ⟨.obj r, false, s⟩ = .access ⟨.obj r, false, s⟩ := by cases s <;> rfl
    rw [this] at hx
    simp only [MemAct.touch?, Option.some.injEq] at hx
    subst hx
    exact .inr ⟨r, rfl, rfl⟩
  | noRoom => simp [MemAct.ofEvent, MemAct.touch?] at hx
theorem EvIn.word {Own Sh : Blk} {e : Event} (h : EvIn Own Sh e) {m : Mark} (hm : MemAct.ofEvent e = .mark m) : Neutral m := by
  cases h with
  | cell p wr h => simp [MemAct.ofEvent] at hm
  | obj r s => cases s <;> simp [MemAct.ofEvent] at hm
  | noRoom => simp only [MemAct.ofEvent, MemAct.mark.injEq] at hm; rw [← hm]; rfl
/-- A step of one's own. -/
theorem TInv.own {t : Trace} {A : Shr} {sz lo : Nat} {live : Nat → Prop} (h : TInv t A sz live) (hs : Sep A sz lo) {γ : Nat} (hγ : γ = 0 ∨ live γ) {w w' : World} (hw : w.heap.size = sz) (hsz : w.heap.size ≤ w'.heap.size) {fn : FuncId} {pos : String} {es : Array Event}
    (he : ∀ e ∈ es, EvIn (Grow (A γ).1 w w') (A γ).2 e) : TInv (t ++ MemOp.ofEvents γ fn pos es) (setA A γ (Grow (A γ).1 w w') (A γ).2) w'.heap.size live := by
  have hg : ∀ op ∈ MemOp.ofEvents γ fn pos es, op.g = γ := fun op hop => by obtain ⟨e, _, rfl⟩ := ofEvents_mem hop; rfl
  have ht : ∀ op ∈ MemOp.ofEvents γ fn pos es, ∀ x, op.act.touch? = some x → (∃ p : Addr, x.loc = .cell p ∧ (Grow (A γ).1 w w' p.block ∨ ((A γ).2 p.block ∧ x.write = false))) ∨ (∃ r, x.loc = .obj r ∧ x.write = false) := fun op hop x hx => by
    obtain ⟨e, h1, rfl⟩ := ofEvents_mem hop
    exact (he e h1).touch hx
  have hlow : ∀ γ', ∀ b, Grow (A γ).1 w w' b → (A γ').2 b → b < sz → False := fun γ' b h1 h2 h3 => by
    rcases h1 with h1 | ⟨h1, _⟩
    · exact hs.sh _ _ _ h1 h2
    · omega
  refine ⟨fun said => noRace_append (g := γ) (h.clean said) hg fun i a ha op hop b hb hc => ?_, ?_, ?_, ?_, ?_⟩
  · obtain ⟨hloc, hmem, hwr, -⟩ := hc
    rcases ht op hop b hb with ⟨p, hp, hin⟩ | ⟨r, hr, hrw⟩
    · have hap : a.loc = .cell p := hloc.trans hp
      rcases hin with hin | ⟨hin, hnw⟩
      · rcases hin with hin | ⟨hin, _⟩
        · exact h.know γ i a p ha hap (.inl hin)
        · rcases h.low i a ha with ⟨q, hq, hlt⟩ | ⟨r, hr, _⟩
          · rw [hap] at hq; cases hq; omega
          · rw [hap] at hr; cases hr
      · exact h.know γ i a p ha hap (.inr ⟨hin, by rcases hwr with hwr | hwr; · exact hwr
                                                   · rw [hnw] at hwr; cases hwr⟩)
    · exfalso
      rcases h.low i a ha with ⟨q, hq, hlt⟩ | ⟨r', hr', hrw'⟩
      · rw [hloc, hr] at hq; cases hq
      · rw [hrw, hrw'] at hwr; simp at hwr
  · refine h.words.append fun op hop m hm => ?_
    obtain ⟨e, h1, rfl⟩ := ofEvents_mem hop
    exact (he e h1).word hm
  · intro i x hx
    rcases touchAt_cases hx with ⟨_, hx⟩ | ⟨_, op, hop, _, hx⟩
    · rcases h.low i x hx with ⟨p, hp, hlt⟩ | hr
      · exact .inl ⟨p, hp, by omega⟩
      · exact .inr hr
    · rcases ht op hop x hx with ⟨p, hp, hin⟩ | hr
      · refine .inl ⟨p, hp, ?_⟩
        rcases hin with (hin | ⟨_, hin⟩) | ⟨hin, _⟩
        · have := hs.lt γ p.block (.inl hin); omega
        · exact hin
        · have := hs.lt γ p.block (.inr hin); omega
      · exact .inr hr
  · intro δ i x p hx hp hin
    rcases touchAt_cases hx with ⟨_, hx⟩ | ⟨_, op, hop, hat, hx⟩
    · refine (h.know δ i x p hx hp ?_).app _
      have hlt : p.block < sz := by
        rcases h.low i x hx with ⟨q, hq, hlt⟩ | ⟨r, hr, _⟩
        · rw [hp] at hq; cases hq; exact hlt
        · rw [hp] at hr; cases hr
      by_cases hd : δ = γ
      · subst hd
        rw [setA_same] at hin
        rcases hin with (hin | ⟨hin, _⟩) | hin
        · exact .inl hin
        · omega
        · exact .inr hin
      · rw [setA_ne _ _ _ hd] at hin
        exact hin
    · by_cases hd : δ = γ
      · subst hd
        have := knows_own hat
        rwa [hg op hop] at this
      · exfalso
        rw [setA_ne _ _ _ hd] at hin
        rcases ht op hop x hx with ⟨q, hq, hin'⟩ | ⟨r, hr, _⟩
        · rw [hp] at hq
          cases hq
          rcases hin with hin | ⟨hin, hwr⟩
          · have hlt := hs.lt δ p.block (.inl hin)
            rcases hin' with (hin' | ⟨hin', _⟩) | ⟨hin', _⟩
            · exact hs.own _ _ _ hin hd hin'
            · omega
            · exact hs.sh _ _ _ hin hin'
          · have hlt := hs.lt δ p.block (.inr hin)
            rcases hin' with hin' | ⟨_, hnw⟩
            · exact hlow δ _ hin' hin hlt
            · rw [hnw] at hwr; cases hwr
        · rw [hp] at hr; cases hr
  · intro i op x hop hx
    rcases getElem?_append_cases hop with ⟨_, hop'⟩ | ⟨_, hu⟩
    · rcases h.done i op x hop' hx with h1 | h1 | h1
      · exact .inl h1
      · exact .inr (.inl (h1.app _))
      · exact .inr (.inr h1)
    · rw [hg op hu]
      rcases hγ with h1 | h1
      · exact .inl h1
      · exact .inr (.inr h1)
theorem Sep.own' {A : Shr} {sz lo : Nat} (hs : Sep A sz lo) {γ : Nat} {w w' : World} (hw : w.heap.size = sz) (hsz : w.heap.size ≤ w'.heap.size) (hlo : lo ≤ sz) : Sep (setA A γ (Grow (A γ).1 w w') (A γ).2) w'.heap.size lo where
  own := fun δ ε b h1 hne h2 => by
    by_cases hd : δ = γ <;> by_cases he : ε = γ
    · exact hne (hd.trans he.symm)
    · subst hd
      rw [setA_same] at h1
      rw [setA_ne _ _ _ he] at h2
      have hlt := hs.lt _ _ (.inl h2)
      rcases h1 with h1 | ⟨h1, _⟩
      · exact hs.own _ _ _ h1 hne h2
      · omega
    · subst he
      rw [setA_same] at h2
      rw [setA_ne _ _ _ hd] at h1
      have hlt := hs.lt _ _ (.inl h1)
      rcases h2 with h2 | ⟨h2, _⟩
      · exact hs.own _ _ _ h1 hne h2
      · omega
    · rw [setA_ne _ _ _ hd] at h1
      rw [setA_ne _ _ _ he] at h2
      exact hs.own _ _ _ h1 hne h2
  sh := fun δ ε b h1 h2 => by
    have h2' : (A ε).2 b := by
      by_cases he : ε = γ
      · subst he; rw [setA_same] at h2; exact h2
      · rw [setA_ne _ _ _ he] at h2; exact h2
    have hlt := hs.lt _ _ (.inr h2')
    by_cases hd : δ = γ
    · subst hd
      rw [setA_same] at h1
      rcases h1 with h1 | ⟨h1, _⟩
      · exact hs.sh _ _ _ h1 h2'
      · omega
    · rw [setA_ne _ _ _ hd] at h1
      exact hs.sh _ _ _ h1 h2'
  sub := fun δ b h1 => by
    have h1' : (A δ).2 b := by
      by_cases he : δ = γ
      · subst he; rw [setA_same] at h1; exact h1
      · rw [setA_ne _ _ _ he] at h1; exact h1
    have := hs.sub _ _ h1'
    by_cases he : 0 = γ
    · subst he; rw [setA_same]; exact this
    · rw [setA_ne _ _ _ he]; exact this
  lt := fun δ b h1 => by
    by_cases hd : δ = γ
    · subst hd
      rw [setA_same] at h1
      rcases h1 with (h1 | ⟨_, h1⟩) | h1
      · have := hs.lt _ _ (.inl h1); omega
      · exact h1
      · have := hs.lt _ _ (.inr h1); omega
    · rw [setA_ne _ _ _ hd] at h1
      have := hs.lt _ _ h1; omega
  lo := fun δ b h1 => by
    by_cases hd : δ = γ
    · subst hd
      rw [setA_same] at h1
      rcases h1 with h1 | ⟨h1, _⟩
      · exact hs.lo _ _ h1
      · omega
    · rw [setA_ne _ _ _ hd] at h1
      exact hs.lo _ _ h1
/-- A go statement: some blocks that were main's own are shared with the new one from here on. -/
theorem TInv.spawn {t : Trace} {A : Shr} {sz lo n : Nat} {live : Nat → Prop} (h : TInv t A sz live) (hs : Sep A sz lo) (hn : n ≠ 0) (hA : ∀ b, ¬ (A n).1 b ∧ ¬ (A n).2 b) {Give : Blk} (hG : ∀ b, Give b → (A 0).1 b) (hl : ∀ γ, live γ → live γ ∨ γ = n) {fn fn' : FuncId} {pos : String} :
    TInv (t ++ (#[{ g := 0, fn := fn, pos := pos, act := .go n }, { g := n, fn := fn', pos := pos, act := .start }] : Trace))
      (setA (setA A 0 (fun b => (A 0).1 b ∧ ¬ Give b) (fun b => (A 0).2 b ∨ Give b)) n (fun _ => False) (fun b => (A 0).2 b ∨ Give b)) sz (fun γ => live γ ∨ γ = n) := by
  have hno : ∀ op ∈ (#[{ g := 0, fn := fn, pos := pos, act := .go n }, { g := n, fn := fn', pos := pos, act := .start }] : Trace), op.act.touch? = none := fun op hop => by
    simp only [List.mem_toArray, List.mem_cons, List.not_mem_nil, or_false] at hop
    rcases hop with rfl | rfl <;> rfl
  have hw : Wordless (t ++ (#[{ g := 0, fn := fn, pos := pos, act := .go n }, { g := n, fn := fn', pos := pos, act := .start }] : Trace)) := by
    refine h.words.append fun op hop m hm => ?_
    simp only [List.mem_toArray, List.mem_cons, List.not_mem_nil, or_false] at hop
    rcases hop with rfl | rfl <;> cases hm
  have h0 : (t ++ (#[{ g := 0, fn := fn, pos := pos, act := .go n }, { g := n, fn := fn', pos := pos, act := .start }] : Trace))[t.size]? = some { g := 0, fn := fn, pos := pos, act := .go n } := by
    rw [Array.getElem?_append_right (Nat.le_refl _)]; simp
  have h1 : (t ++ (#[{ g := 0, fn := fn, pos := pos, act := .go n }, { g := n, fn := fn', pos := pos, act := .start }] : Trace))[t.size + 1]? = some { g := n, fn := fn', pos := pos, act := .start } := by
    rw [Array.getElem?_append_right (Nat.le_add_right _ _)]; simp
  have hkn : ∀ i, Knows t 0 i → Knows (t ++ (#[{ g := 0, fn := fn, pos := pos, act := .go n }, { g := n, fn := fn', pos := pos, act := .start }] : Trace)) n i := fun i hk => by
    have hb := hk.hb_new (u := (#[{ g := 0, fn := fn, pos := pos, act := .go n }, { g := n, fn := fn', pos := pos, act := .start }] : Trace)) (Nat.le_refl _) h0 rfl
    refine ⟨t.size + 1, _, h1, rfl, .inr (hb.trans (.single (.inr ⟨.spawn (act?_of h0) (act?_of h1) (by simp [Trace.g?, h1]), hw.heard h0, hw.heard h1⟩)))⟩
  refine ⟨fun said => ?_, hw, ?_, ?_, ?_⟩
  · rintro ⟨i, j, hij, ⟨a, b, ha, hb, hc⟩, n1, n2⟩
    have ha' : touchAt _ i = some a := ha
    have hb' : touchAt _ j = some b := hb
    rcases touchAt_cases hb' with ⟨hj, hb2⟩ | ⟨_, op, hop, _, hx⟩
    · rcases touchAt_cases ha' with ⟨hi, ha2⟩ | ⟨_, op, hop, _, hx⟩
      · exact h.clean said ⟨i, j, hij, ⟨a, b, ha2, hb2, hc⟩, fun e => n1 (hb_app _ e), fun e => n2 (hb_app _ e)⟩
      · rw [hno op hop] at hx; cases hx
    · rw [hno op hop] at hx; cases hx
  · intro i x hx
    rcases touchAt_cases hx with ⟨_, hx⟩ | ⟨_, op, hop, _, hx⟩
    · exact h.low i x hx
    · rw [hno op hop] at hx; cases hx
  · intro δ i x p hx hp hin
    rcases touchAt_cases hx with ⟨_, hx1⟩ | ⟨_, op, hop, _, hx⟩
    · by_cases hd : δ = n
      · subst hd
        rw [setA_same] at hin
        simp only [false_or] at hin
        refine hkn i (h.know 0 i x p hx1 hp ?_)
        rcases hin with ⟨h1 | h1, h2⟩
        · exact .inr ⟨h1, h2⟩
        · exact .inl (hG _ h1)
      · rw [setA_ne _ _ _ hd] at hin
        by_cases h00 : δ = 0
        · subst h00
          rw [setA_same] at hin
          refine (h.know 0 i x p hx1 hp ?_).app _
          rcases hin with ⟨h1, _⟩ | ⟨h1 | h1, h2⟩
          · exact .inl h1
          · exact .inr ⟨h1, h2⟩
          · exact .inl (hG _ h1)
        · rw [setA_ne _ _ _ h00] at hin
          exact (h.know δ i x p hx1 hp hin).app _
    · rw [hno op hop] at hx; cases hx
  · intro i op x hop hx
    rcases getElem?_append_cases hop with ⟨_, hop'⟩ | ⟨_, hu⟩
    · rcases h.done i op x hop' hx with h1 | h1 | h1
      · exact .inl h1
      · exact .inr (.inl (h1.app _))
      · exact .inr (.inr (.inl h1))
    · rw [hno op hu] at hx; cases hx
theorem Sep.spawn {A : Shr} {sz lo n : Nat} (hs : Sep A sz lo) (hn : n ≠ 0) {Give : Blk} (hG : ∀ b, Give b → (A 0).1 b) :
    Sep (setA (setA A 0 (fun b => (A 0).1 b ∧ ¬ Give b) (fun b => (A 0).2 b ∨ Give b)) n (fun _ => False) (fun b => (A 0).2 b ∨ Give b)) sz lo := by
  have o1 : ∀ γ b, (setA (setA A 0 (fun b => (A 0).1 b ∧ ¬ Give b) (fun b => (A 0).2 b ∨ Give b)) n (fun _ => False) (fun b => (A 0).2 b ∨ Give b) γ).1 b → (A γ).1 b ∧ (γ = 0 → ¬ Give b) := fun γ b h => by
    by_cases hd : γ = n
    · subst hd; rw [setA_same] at h; exact h.elim
    · rw [setA_ne _ _ _ hd] at h
      by_cases h0 : γ = 0
      · subst h0; rw [setA_same] at h; exact ⟨h.1, fun _ => h.2⟩
      · rw [setA_ne _ _ _ h0] at h; exact ⟨h, fun e => absurd e h0⟩
  have s1 : ∀ γ b, (setA (setA A 0 (fun b => (A 0).1 b ∧ ¬ Give b) (fun b => (A 0).2 b ∨ Give b)) n (fun _ => False) (fun b => (A 0).2 b ∨ Give b) γ).2 b → (A 0).2 b ∨ Give b := fun γ b h => by
    by_cases hd : γ = n
    · subst hd; rw [setA_same] at h; exact h
    · rw [setA_ne _ _ _ hd] at h
      by_cases h0 : γ = 0
      · subst h0; rw [setA_same] at h; exact h
      · rw [setA_ne _ _ _ h0] at h; exact .inl (hs.sub _ _ h)
  refine ⟨fun γ δ b h1 hne h2 => hs.own _ _ _ (o1 γ b h1).1 hne (o1 δ b h2).1, fun γ δ b h1 h2 => ?_, fun γ b h => ?_, fun γ b h => ?_, fun γ b h => hs.lo _ _ (o1 γ b h).1⟩
  · obtain ⟨h1, h1'⟩ := o1 γ b h1
    rcases s1 δ b h2 with h2 | h2
    · exact hs.sh _ _ _ h1 h2
    · by_cases h0 : γ = 0
      · exact h1' h0 h2
      · exact hs.own _ _ _ h1 h0 (hG _ h2)
  · have := s1 γ b h
    rw [setA_ne _ _ _ (fun e => hn e.symm), setA_same]
    exact this
  · rcases h with h | h
    · exact hs.lt _ _ (.inl (o1 γ b h).1)
    · rcases s1 γ b h with h | h
      · exact hs.lt _ _ (.inr h)
      · exact hs.lt _ _ (.inl (hG _ h))
/-- A communication: goroutine 0 has what the sender had. -/
theorem TInv.comm {t : Trace} {A : Shr} {sz lo n : Nat} {live : Nat → Prop} (h : TInv t A sz live) (hs : Sep A sz lo) (hn : n ≠ 0) {c k cap : Nat} {f1 f2 f3 f4 : FuncId} {p1 p2 p3 p4 : String} :
    TInv (t ++ (#[{ g := n, fn := f1, pos := p1, act := .send c k }, { g := 0, fn := f2, pos := p2, act := .recv c k cap }, { g := n, fn := f3, pos := p3, act := .sendDone c k }, { g := 0, fn := f4, pos := p4, act := .recvDone c k }] : Trace))
      (setA (setA A 0 (fun b => (A 0).1 b ∨ (A n).1 b) (A 0).2) n (fun _ => False) (fun _ => False)) sz (fun γ => live γ ∧ γ ≠ n) := by
  generalize hu : (#[{ g := n, fn := f1, pos := p1, act := .send c k }, { g := 0, fn := f2, pos := p2, act := .recv c k cap }, { g := n, fn := f3, pos := p3, act := .sendDone c k }, { g := 0, fn := f4, pos := p4, act := .recvDone c k }] : Trace) = u
  have hno : ∀ op ∈ u, op.act.touch? = none := fun op hop => by
    subst hu
    simp only [List.mem_toArray, List.mem_cons, List.not_mem_nil, or_false] at hop
    rcases hop with rfl | rfl | rfl | rfl <;> rfl
  have hw : Wordless (t ++ u) := by
    refine h.words.append fun op hop m hm => ?_
    subst hu
    simp only [List.mem_toArray, List.mem_cons, List.not_mem_nil, or_false] at hop
    rcases hop with rfl | rfl | rfl | rfl <;> cases hm
  have h0 : (t ++ u)[t.size]? = some { g := n, fn := f1, pos := p1, act := .send c k } := by
    rw [Array.getElem?_append_right (Nat.le_refl _)]; subst hu; simp
  have h1 : (t ++ u)[t.size + 3]? = some { g := 0, fn := f4, pos := p4, act := .recvDone c k } := by
    rw [Array.getElem?_append_right (Nat.le_add_right _ _)]; subst hu; simp
  have hkn : ∀ i, Knows t n i → Knows (t ++ u) 0 i := fun i hk => by
    have hb := hk.hb_new (u := u) (Nat.le_refl _) h0 rfl
    exact ⟨t.size + 3, _, h1, rfl, .inr (hb.trans (.single (.inr ⟨.handOver (act?_of h0) (act?_of h1), hw.heard h0, hw.heard h1⟩)))⟩
  refine ⟨fun said => ?_, hw, ?_, ?_, ?_⟩
  · rintro ⟨i, j, hij, ⟨a, b, ha, hb, hc⟩, n1, n2⟩
    have ha' : touchAt _ i = some a := ha
    have hb' : touchAt _ j = some b := hb
    rcases touchAt_cases hb' with ⟨hj, hb2⟩ | ⟨_, op, hop, _, hx⟩
    · rcases touchAt_cases ha' with ⟨hi, ha2⟩ | ⟨_, op, hop, _, hx⟩
      · exact h.clean said ⟨i, j, hij, ⟨a, b, ha2, hb2, hc⟩, fun e => n1 (hb_app _ e), fun e => n2 (hb_app _ e)⟩
      · rw [hno op hop] at hx; cases hx
    · rw [hno op hop] at hx; cases hx
  · intro i x hx
    rcases touchAt_cases hx with ⟨_, hx⟩ | ⟨_, op, hop, _, hx⟩
    · exact h.low i x hx
    · rw [hno op hop] at hx; cases hx
  · intro δ i x p hx hp hin
    rcases touchAt_cases hx with ⟨_, hx⟩ | ⟨_, op, hop, _, hx⟩
    · by_cases hd : δ = n
      · subst hd
        rw [setA_same] at hin
        simp at hin
      · rw [setA_ne _ _ _ hd] at hin
        by_cases h00 : δ = 0
        · subst h00
          rw [setA_same] at hin
          rcases hin with (h1 | h1) | h1
          · exact (h.know 0 i x p hx hp (.inl h1)).app _
          · exact hkn i (h.know n i x p hx hp (.inl h1))
          · exact (h.know 0 i x p hx hp (.inr h1)).app _
        · rw [setA_ne _ _ _ h00] at hin
          exact (h.know δ i x p hx hp hin).app _
    · rw [hno op hop] at hx; cases hx
  · intro i op x hop hx
    rcases getElem?_append_cases hop with ⟨_, hop'⟩ | ⟨_, hu'⟩
    · rcases h.done i op x hop' hx with h1 | h1 | h1
      · exact .inl h1
      · exact .inr (.inl (h1.app _))
      · by_cases hg : op.g = n
        · have := knows_own hop'
          rw [hg] at this
          exact .inr (.inl (hkn i this))
        · exact .inr (.inr ⟨h1, hg⟩)
    · rw [hno op hu'] at hx; cases hx
theorem Sep.comm {A : Shr} {sz lo n : Nat} (hs : Sep A sz lo) (hn : n ≠ 0) : Sep (setA (setA A 0 (fun b => (A 0).1 b ∨ (A n).1 b) (A 0).2) n (fun _ => False) (fun _ => False)) sz lo := by
  have o1 : ∀ γ b, (setA (setA A 0 (fun b => (A 0).1 b ∨ (A n).1 b) (A 0).2) n (fun _ => False) (fun _ => False) γ).1 b → γ ≠ n ∧ ((A γ).1 b ∨ (γ = 0 ∧ (A n).1 b)) := fun γ b h => by
    by_cases hd : γ = n
    · subst hd; rw [setA_same] at h; exact h.elim
    · refine ⟨hd, ?_⟩
      rw [setA_ne _ _ _ hd] at h
      by_cases h0 : γ = 0
      · subst h0; rw [setA_same] at h; exact h.imp id fun h => ⟨rfl, h⟩
      · rw [setA_ne _ _ _ h0] at h; exact .inl h
  have s1 : ∀ γ b, (setA (setA A 0 (fun b => (A 0).1 b ∨ (A n).1 b) (A 0).2) n (fun _ => False) (fun _ => False) γ).2 b → (A γ).2 b := fun γ b h => by
    by_cases hd : γ = n
    · subst hd; rw [setA_same] at h; exact h.elim
    · rw [setA_ne _ _ _ hd] at h
      by_cases h0 : γ = 0
      · subst h0; rw [setA_same] at h; exact h
      · rw [setA_ne _ _ _ h0] at h; exact h
  refine ⟨fun γ δ b h1 hne h2 => ?_, fun γ δ b h1 h2 => ?_, fun γ b h => ?_, fun γ b h => ?_, fun γ b h => ?_⟩
  · obtain ⟨g1, h1⟩ := o1 γ b h1
    obtain ⟨g2, h2⟩ := o1 δ b h2
    rcases h1 with h1 | ⟨e1, k1⟩ <;> rcases h2 with h2 | ⟨e2, k2⟩
    · exact hs.own _ _ _ h1 hne h2
    · exact hs.own _ _ _ h1 g1 k2
    · exact hs.own _ _ _ h2 g2 k1
    · exact hne (e1.trans e2.symm)
  · have h2 := s1 δ b h2
    rcases (o1 γ b h1).2 with h1 | ⟨_, h1⟩ <;> exact hs.sh _ _ _ h1 h2
  · rw [setA_ne _ _ _ (fun e => hn e.symm), setA_same]
    exact hs.sub _ _ (s1 γ b h)
  · rcases h with h | h
    · rcases (o1 γ b h).2 with h | ⟨_, h⟩ <;> exact hs.lt _ _ (.inl h)
    · exact hs.lt _ _ (.inr (s1 γ b h))
  · rcases (o1 γ b h).2 with h | ⟨_, h⟩ <;> exact hs.lo _ _ h
/-- Nobody but goroutine 0 has anything to tell. -/
theorem TInv.handed {t : Trace} {A : Shr} {sz : Nat} {live : Nat → Prop} (h : TInv t A sz live) (hl : ∀ γ, ¬ live γ) : t.HandedOver := by
  intro i g hg hne ⟨x, hx, hmem, _⟩
  obtain ⟨op, hop, hox⟩ := touch_of hx
  have hgo : op.g = g := by simpa [Trace.g?, hop] using hg
  rcases h.done i op x hop hox with h1 | h1 | h1
  · exact absurd (hgo.symm.trans h1) hne
  · obtain ⟨q, z, h2, h3, h4⟩ := h1
    rcases h4 with rfl | h4
    · rw [hop] at h2; cases h2; exact absurd (hgo.symm.trans h3) hne
    · exact ⟨q, by simp [Trace.g?, h2, h3], h4⟩
  · exact absurd h1 (hl _)
end Go.Proofs.Ytkodpijedinanaa.Sim

namespace Go.Proofs.Ytkodpijedinanaa.Sim
open Go Go.Conc
set_option linter.unusedVariables false
set_option linter.unusedSimpArgs false

/-- What a worker's value is, in the world, with the blocks that come with it. -/
abbrev Prm := Value → World → Blk → Prop
def chanOpen (W : World) (c : Nat) : Prop := ∃ s t, W.heap[c]? = some (.chan 0 #[] false s s t)
theorem chanOpen.rely {W W1 : World} {c : Nat} (h : chanOpen W c) {Own Sh : Blk} (hc : Own c ∨ Sh c) (hr : Rely Own Sh W W1) : chanOpen W1 c := by
  obtain ⟨s, t, h⟩ := h
  obtain ⟨o, h1, h2⟩ := hr.kept c _ hc h
  rcases h2 with rfl | ⟨p, f, s1, s2, t1, h3, rfl⟩
  · exact ⟨s, t, h1⟩
  · cases h3; exact ⟨_, _, h1⟩
/-- A worker at its send. -/
def AtSnd (P : Program) (lo c : Nat) (pr : Prm) (sh : Blk) : Blk → Goroutine → World → Prop := fun own g W =>
  g.status = .running ∧ sh c ∧ lo ≤ c ∧ ∃ v k, (∀ W1, Rely own sh W W1 → stepG P false g W1 = .comm g #[scase c v (.tuple #[])] true .send W1 #[] ∧ chanOpen W1 c ∧ pr v W1 own) ∧ QuitsIn P k (Conc.served g undef)
theorem Goes'.running {P : Program} {lo c : Nat} {pr : Prm} {sh : Blk} {own : Blk} {g : Goroutine} {w : World} (h : Goes' P false sh (AtSnd P lo c pr sh) own g w) : g.status = .running := by
  cases h with
  | stop h => exact h.1
  | step h _ _ => exact h
/-- A worker's state, for the record. -/
inductive WSt
  | work (c : Nat) (pr : Prm) (own sh : Blk) (g : Goroutine) (w : World)
  | park (c : Nat) (pr : Prm) (own sh : Blk)
  | quit (k : Nat)
def WSt.own : WSt → Blk
  | .work _ _ own _ _ _ | .park _ _ own _ => own
  | .quit _ => fun _ => False
def WSt.sh : WSt → Blk
  | .work _ _ _ sh _ _ | .park _ _ _ sh => sh
  | .quit _ => fun _ => False
def WSt.job : WSt → Option (Nat × Prm)
  | .work c pr _ _ _ _ | .park c pr _ _ => some (c, pr)
  | .quit _ => none
def WOk (P : Program) (lo : Nat) (W : World) : WSt → Goroutine → Prop
  | .work c pr own sh g w, h => h = g ∧ Goes' P false sh (AtSnd P lo c pr sh) own g w ∧ Rely own sh w W
  | .park c pr own sh, h => ∃ g v k, h = parked g #[scase c v (.tuple #[])] .send ∧ sh c ∧ lo ≤ c ∧ (∀ W1, Rely own sh W W1 → chanOpen W1 c ∧ pr v W1 own) ∧ QuitsIn P k (Conc.served g undef)
  | .quit k, h => QuitsIn P k h
theorem WOk.rely {P : Program} {lo : Nat} {W W' : World} {x : WSt} {h : Goroutine} (hx : WOk P lo W x h) (hr : Rely x.own x.sh W W') : WOk P lo W' x h := by
  cases x with
  | work c pr own sh g w => exact ⟨hx.1, hx.2.1, hx.2.2.trans hr⟩
  | park c pr own sh =>
    obtain ⟨g, v, k, h1, h2, h3, h4, h5⟩ := hx
    exact ⟨g, v, k, h1, h2, h3, fun W1 hr1 => h4 W1 (hr.trans hr1), h5⟩
  | quit k => exact hx
theorem again_still {P : Program} {lo : Nat} {W : World} {x : WSt} {h : Goroutine} (hx : WOk P lo W x h) (a a' : Goroutine) : woken P a a' W h = h := by
  cases x with
  | work c pr own sh g w => obtain ⟨rfl, h1, h2⟩ := hx; exact woken_running h1.running
  | park c pr own sh =>
    obtain ⟨g, v, k, rfl, h2, h3, h4, h5⟩ := hx
    obtain ⟨⟨s, t, hc⟩, _⟩ := h4 W (.refl _ _ _)
    exact woken_send_open a a' hc
  | quit k => exact woken_quits hx
/-- One state of a worker's comes behind another. -/
inductive WLt (P : Program) : WSt → WSt → Prop
  | go {c : Nat} {pr : Prm} {own sh : Blk} {g g' : Goroutine} {w w1 w' : World} {es : Array Event} : Rely own sh w w1 → stepG P false g w1 = .go g' w' es → WLt P (.work c pr (Grow own w1 w') sh g' w') (.work c pr own sh g w)
  | park {c : Nat} {pr : Prm} {own sh : Blk} {g : Goroutine} {w : World} : WLt P (.park c pr own sh) (.work c pr own sh g w)
  | quit {k : Nat} : WLt P (.quit k) (.quit (k + 1))
theorem acc_quit (P : Program) : ∀ k, Acc (WLt P) (.quit k)
  | 0 => ⟨_, fun y hy => by cases hy⟩
  | k + 1 => ⟨_, fun y hy => by cases hy; exact acc_quit P k⟩
theorem acc_park (P : Program) (c : Nat) (pr : Prm) (own sh : Blk) : Acc (WLt P) (.park c pr own sh) := ⟨_, fun y hy => by cases hy⟩
theorem acc_work {P : Program} {lo c : Nat} {pr : Prm} {own sh : Blk} {g : Goroutine} {w : World} (h : Goes' P false sh (AtSnd P lo c pr sh) own g w) : Acc (WLt P) (.work c pr own sh g w) := by
  induction h with
  | stop h =>
    refine ⟨_, fun y hy => ?_⟩
    cases hy with
    | go hr he =>
      obtain ⟨_, _, _, v, k, h1, _⟩ := h
      rw [(h1 _ hr).1] at he
      cases he
    | park => exact acc_park ..
  | step hs h1 h2 ih =>
    refine ⟨_, fun y hy => ?_⟩
    cases hy with
    | go hr he => exact ih _ hr _ _ _ he
    | park => exact acc_park ..
theorem WOk.acc {P : Program} {lo : Nat} {W : World} {x : WSt} {h : Goroutine} (hx : WOk P lo W x h) : Acc (WLt P) x := by
  cases x with
  | work c pr own sh g w => exact acc_work hx.2.1
  | park c pr own sh => exact acc_park ..
  | quit k => exact acc_quit P k
/-- One of them goes on. -/
inductive LLt {α : Type} (r : α → α → Prop) : List α → List α → Prop
  | mk {l : List α} {i : Nat} {x y : α} : l[i]? = some y → r x y → LLt r (l.set i x) l
theorem acc_list {α : Type} {r : α → α → Prop} : ∀ {l : List α}, (∀ (i : Nat) (x : α), l[i]? = some x → Acc r x) → Acc (LLt r) l := by
  intro l
  induction l with
  | nil =>
    intro _
    refine ⟨_, fun y hy => ?_⟩
    generalize hn : ([] : List α) = l0 at hy
    cases hy with
    | mk h _ => subst hn; simp at h
  | cons a l ih =>
    intro h
    have ha : Acc r a := h 0 a rfl
    have hl : Acc (LLt r) l := ih fun i x hx => h (i + 1) x hx
    clear ih h
    induction ha generalizing l with
    | intro a _ iha =>
      induction hl with
      | intro l hl ihl =>
        refine ⟨_, fun y hy => ?_⟩
        cases hy with
        | @mk _ i x y hi hr =>
          cases i with
          | zero =>
            simp only [List.getElem?_cons_zero, Option.some.injEq] at hi
            subst hi
            exact iha x hr (l := l) ⟨_, hl⟩
          | succ i =>
            simp only [List.getElem?_cons_succ] at hi
            exact ihl _ (.mk hi hr)
/-- Whose which blocks are. -/
def agents (Own Sh : Blk) (st : List WSt) : Shr := fun γ => match γ with
  | 0 => (Own, Sh)
  | j + 1 => match st[j]? with
    | some x => (x.own, x.sh)
    | none => (fun _ => False, fun _ => False)
theorem agents_set (Own Sh : Blk) {st : List WSt} {i : Nat} (hi : i < st.length) (x : WSt) : agents Own Sh (st.set i x) = setA (agents Own Sh st) (i + 1) x.own x.sh := by
  funext γ
  cases γ with
  | zero => simp [agents, setA]
  | succ j =>
    by_cases e : j = i
    · subst e; simp [agents, setA, hi]
    · have e' : ¬ i = j := fun h => e h.symm
      simp [agents, setA, e, List.getElem?_set, e']
theorem agents_main (Own Sh Own' Sh' : Blk) (st : List WSt) : agents Own' Sh' st = setA (agents Own Sh st) 0 Own' Sh' := by
  funext γ
  cases γ with
  | zero => simp [agents, setA]
  | succ j => simp [agents, setA]
theorem agents_push (Own Sh : Blk) (st : List WSt) (x : WSt) : agents Own Sh (st ++ [x]) = setA (agents Own Sh st) (st.length + 1) x.own x.sh := by
  funext γ
  cases γ with
  | zero => simp [agents, setA]
  | succ j =>
    by_cases e : j = st.length
    · subst e; simp [agents, setA]
    · by_cases hlt : j < st.length
      · simp [agents, setA, e, List.getElem?_append, hlt]
      · have h1 : st[j]? = none := List.getElem?_eq_none (by omega)
        have h2 : (st ++ [x])[j]? = none := List.getElem?_eq_none (by simp; omega)
        simp only [agents, setA, h1, h2]
        rw [if_neg (by omega)]
def liveOf (st : List WSt) : Nat → Prop := fun γ => ∃ j x, γ = j + 1 ∧ st[j]? = some x ∧ x.job ≠ none
/-- What stays of the start. -/
structure BaseOk (W0 : World) (lo : Nat) (W : World) : Prop where
  tape : W.tape = W0.tape
  os : W.os = W0.os
  out : W.output = W0.output
  heap : ∀ b, b < lo → W.heap[b]? = W0.heap[b]?
  le : lo ≤ W.heap.size
def updP (p : Nat → Option (Nat × Prm)) (i : Nat) (x : Option (Nat × Prm)) : Nat → Option (Nat × Prm) := fun a => if a = i then x else p a
structure Inv (P : Program) (W0 : World) (lo : Nat) (Own Sh : Blk) (pend : Nat → Option (Nat × Prm)) (st : List WSt) (m0 : Goroutine) (gs : Array Goroutine) (W : World) (t : Trace) : Prop where
  size : gs.size = st.length + 1
  main : gs[0]? = some m0
  wk : ∀ (i : Nat) (x : WSt), st[i]? = some x → ∃ h, gs[i + 1]? = some h ∧ WOk P lo W x h
  sep : Sep (agents Own Sh st) W.heap.size lo
  tr : TInv t (agents Own Sh st) W.heap.size (liveOf st)
  bs : BaseOk W0 lo W
  jobs : ∀ i, pend i = (st[i]?).bind (·.job)
theorem Inv.at {P : Program} {W0 : World} {lo : Nat} {Own Sh : Blk} {pend : Nat → Option (Nat × Prm)} {st : List WSt} {m0 : Goroutine} {gs : Array Goroutine} {W : World} {t : Trace} (h : Inv P W0 lo Own Sh pend st m0 gs W t) (d : Nat) : Inv P W0 lo Own Sh pend st m0 gs (W.at d) t where
  size := h.size
  main := h.main
  wk := fun i x hx => by
    obtain ⟨g, h1, h2⟩ := h.wk i x hx
    exact ⟨g, h1, h2.rely ⟨Nat.le_refl _, fun b o _ ho => ⟨o, ho, .refl o⟩⟩⟩
  sep := h.sep
  tr := h.tr
  bs := ⟨h.bs.tape, h.bs.os, h.bs.out, h.bs.heap, h.bs.le⟩
  jobs := h.jobs
theorem rely_at (Own Sh : Blk) (W : World) (d : Nat) : Rely Own Sh W (W.at d) := ⟨Nat.le_refl _, fun b o _ ho => ⟨o, ho, .refl o⟩⟩
theorem rely_of_did {A : Shr} {lo : Nat} {W W' : World} {γ : Nat} {es : Array Event} (hs : Sep A W.heap.size lo) (h : Did (A γ).1 (A γ).2 W W' es) : ∀ δ, δ ≠ γ → Rely (A δ).1 (A δ).2 W W' := fun δ hd => ⟨h.size, fun b o hb ho => by
  have hlt := (Array.getElem?_eq_some_iff.1 ho).1
  have hn : ¬ (A γ).1 b := fun hg => by
    rcases hb with hb | hb
    · exact hs.own _ _ _ hb hd hg
    · exact hs.sh _ _ _ hg hb
  exact ⟨o, by rw [h.kept b hlt hn]; exact ho, .refl o⟩⟩
theorem BaseOk.did {W0 W W' : World} {lo : Nat} {Own Sh : Blk} {es : Array Event} (h : BaseOk W0 lo W) (hd : Did Own Sh W W' es) (hlo : ∀ b, Own b → lo ≤ b) : BaseOk W0 lo W' where
  tape := hd.tape.trans h.tape
  os := hd.os.trans h.os
  out := hd.out.trans h.out
  heap := fun b hb => by
    rw [hd.kept b (Nat.lt_of_lt_of_le hb h.le) fun ho => absurd (hlo b ho) (by omega)]
    exact h.heap b hb
  le := Nat.le_trans h.le hd.size
section
variable {P : Program} {W0 : World} {lo : Nat} {Own Sh : Blk} {pend : Nat → Option (Nat × Prm)} {st : List WSt} {m0 : Goroutine} {gs : Array Goroutine} {W : World} {t : Trace}
theorem get_woken (f : Goroutine → Goroutine) (gs : Array Goroutine) (i j : Nat) (x : Goroutine) (h : j ≠ i) : ((gs.map f).setIfInBounds i x)[j]? = (gs[j]?).map f := by
  rw [Array.getElem?_setIfInBounds_ne (fun e => h e.symm)]
  simp
/-- Main goes a step. -/
theorem Inv.main_step (h : Inv P W0 lo Own Sh pend st m0 gs W t) {g' : Goroutine} {W' : World} {es : Array Event} (hg : stepG P true m0 W = .go g' W' es) (hd : Did Own Sh W W' es) (sl : Option (Nat × Nat)) :
    ∃ gs' u, runT P (crowd gs W sl) 0 = (.next (crowd gs' W' sl), u) ∧ Inv P W0 lo (Grow Own W W') Sh pend st g' gs' W' (t ++ u) := by
  refine ⟨_, _, runT_crowd_go (i := 0) h.main hg, ?_⟩
  have hA : (agents Own Sh st 0) = (Own, Sh) := rfl
  have hrel : ∀ (i : Nat) (x : WSt), st[i]? = some x → Rely x.own x.sh W W' := fun i x hx => by
    have := rely_of_did (γ := 0) h.sep hd (i + 1) (by omega)
    simpa [agents, hx] using this
  refine ⟨by simp [h.size], ?_, fun i x hx => ?_, ?_, ?_, h.bs.did hd (fun b hb => h.sep.lo 0 b hb), h.jobs⟩
  · have : 0 < gs.size := by rw [h.size]; omega
    simp [this]
  · obtain ⟨k, h1, h2⟩ := h.wk i x hx
    have h3 := h2.rely (hrel i x hx)
    exact ⟨k, by rw [get_woken _ _ _ _ _ (by omega), h1, Option.map_some, again_still h3], h3⟩
  · rw [agents_main Own Sh]
    exact h.sep.own' (γ := 0) rfl hd.size h.bs.le
  · rw [agents_main Own Sh]
    exact h.tr.own h.sep (.inl rfl) rfl hd.size hd.evs
theorem liveOf_set {st : List WSt} {i : Nat} {x y : WSt} (hi : st[i]? = some y) (hx : x.job ≠ none) (hy : y.job ≠ none) : liveOf (st.set i x) = liveOf st := by
  have hlt := (List.getElem?_eq_some_iff.1 hi).1
  funext γ
  refine propext ⟨fun ⟨j, z, e, h1, h2⟩ => ?_, fun ⟨j, z, e, h1, h2⟩ => ?_⟩
  · by_cases hj : i = j
    · subst hj; exact ⟨i, y, e, hi, hy⟩
    · rw [List.getElem?_set_ne hj] at h1; exact ⟨j, z, e, h1, h2⟩
  · by_cases hj : i = j
    · subst hj; exact ⟨i, x, e, by simp [hlt], hx⟩
    · exact ⟨j, z, e, by rw [List.getElem?_set_ne hj]; exact h1, h2⟩
theorem get_two {i j : Nat} {x : Goroutine} (hi : i ≠ j) : (gs.setIfInBounds i x)[j]? = gs[j]? := by
  rw [Array.getElem?_setIfInBounds_ne hi]
/-- How main stands: it runs, or waits at its channel. -/
def MainAt (Sh : Blk) (W : World) (m0 : Goroutine) : Prop := m0.status = .running ∨ ∃ g c z f, m0 = parked g #[rcase c z] (.recv f) ∧ Sh c ∧ lo ≤ c ∧ chanOpen W c
theorem MainAt.rely {W' : World} (h : MainAt (lo := lo) Sh W m0) (hr : Rely Own Sh W W') : MainAt (lo := lo) Sh W' m0 := by
  rcases h with h | ⟨g, c, z, f, h1, h2, h3, h4⟩
  · exact .inl h
  · exact .inr ⟨g, c, z, f, h1, h2, h3, h4.rely (.inr h2) hr⟩
theorem MainAt.still (h : MainAt (lo := lo) Sh W m0) (a a' : Goroutine) : woken P a a' W m0 = m0 := by
  rcases h with h | ⟨g, c, z, f, rfl, h2, h3, s, t, h4⟩
  · exact woken_running h
  · exact woken_recv_open a a' h4
/-- A worker goes a step of its own. -/
theorem Inv.work_step (h : Inv P W0 lo Own Sh pend st m0 gs W t) (hm : MainAt (lo := lo) Sh W m0) {i : Nat} {c : Nat} {pr : Prm} {own sh : Blk} {g g' : Goroutine} {w W' : World} {es : Array Event} (hi : st[i]? = some (.work c pr own sh g w))
    (hg : stepG P false g W = .go g' W' es) (hd : Did own sh W W' es) (hnext : Goes' P false sh (AtSnd P lo c pr sh) (Grow own W W') g' W') (sl : Option (Nat × Nat)) :
    ∃ gs' u, runT P (crowd gs W sl) (i + 1) = (.next (crowd gs' W' sl), u) ∧ Inv P W0 lo Own Sh pend (st.set i (.work c pr (Grow own W W') sh g' W')) m0 gs' W' (t ++ u) ∧ Rely Own Sh W W' := by
  obtain ⟨k, hk, rfl, h2, h3⟩ := h.wk i _ hi
  have hlt := (List.getElem?_eq_some_iff.1 hi).1
  have hA : (agents Own Sh st (i + 1)) = (own, sh) := by simp [agents, hi, WSt.own, WSt.sh]
  have hd' : Did (agents Own Sh st (i + 1)).1 (agents Own Sh st (i + 1)).2 W W' es := by rw [hA]; exact hd
  have hrel : ∀ (j : Nat) (x : WSt), j ≠ i → st[j]? = some x → Rely x.own x.sh W W' := fun j x hj hx => by
    have := rely_of_did (γ := i + 1) h.sep hd' (j + 1) (by omega)
    simpa [agents, hx] using this
  have hrel0 : Rely Own Sh W W' := rely_of_did (γ := i + 1) h.sep hd' 0 (by omega)
  refine ⟨_, _, runT_crowd_go (i := i + 1) hk (by rw [show (i + 1 == 0) = false from rfl]; exact hg), ?_, hrel0⟩
  refine ⟨by simp [h.size], ?_, fun j x hx => ?_, ?_, ?_, h.bs.did hd' (fun b hb => h.sep.lo _ b hb), fun j => ?_⟩
  · rw [get_woken _ _ _ _ _ (by omega), h.main, Option.map_some, (hm.rely hrel0).still]
  · by_cases hj : j = i
    · subst hj
      rw [List.getElem?_set_self hlt] at hx
      cases hx
      exact ⟨g', by rw [Array.getElem?_setIfInBounds_self_of_lt (by simp [h.size]; omega)], rfl, hnext, .refl _ _ _⟩
    · rw [List.getElem?_set_ne (fun e => hj e.symm)] at hx
      obtain ⟨k', h4, h5⟩ := h.wk j x hx
      have h6 := h5.rely (hrel j x hj hx)
      exact ⟨k', by rw [get_woken _ _ _ _ _ (by omega), h4, Option.map_some, again_still h6], h6⟩
  · rw [agents_set _ _ hlt]
    have := h.sep.own' (γ := i + 1) (w' := W') rfl hd.size h.bs.le
    rw [hA] at this
    exact this
  · rw [agents_set _ _ hlt, liveOf_set hi (by simp [WSt.job]) (by simp [WSt.job])]
    have := h.tr.own h.sep (γ := i + 1) (.inr ⟨i, _, rfl, hi, by simp [WSt.job]⟩) (w' := W') rfl hd.size (fn := k.frame.fn) (pos := k.frame.place) (es := es) (by rw [hA]; exact hd.evs)
    rw [hA] at this
    exact this
  · rw [h.jobs j]
    by_cases hj : j = i
    · subst hj; rw [List.getElem?_set_self hlt, hi]; rfl
    · rw [List.getElem?_set_ne (fun e => hj e.symm)]
/-- A worker that only leaves goes a step. -/
theorem Inv.quit_step (h : Inv P W0 lo Own Sh pend st m0 gs W t) (hm : MainAt (lo := lo) Sh W m0) {i k : Nat} (hi : st[i]? = some (.quit (k + 1))) {g : Goroutine} (hg : gs[i + 1]? = some g) (hr : g.status = .running) (sl : Option (Nat × Nat)) :
    ∃ gs' u, runT P (crowd gs W sl) (i + 1) = (.next (crowd gs' W sl), u) ∧ Inv P W0 lo Own Sh pend (st.set i (.quit k)) m0 gs' W (t ++ u) := by
  obtain ⟨g1, hk, hq⟩ := h.wk i _ hi
  rw [hg] at hk
  cases hk
  have hlt := (List.getElem?_eq_some_iff.1 hi).1
  rcases hq with hq | ⟨_, g', hs, hq⟩
  · rw [hr] at hq; cases hq
  have hA : agents Own Sh (st.set i (.quit k)) = agents Own Sh st := by
    rw [agents_set _ _ hlt]
    funext γ
    by_cases e : γ = i + 1
    · subst e; rw [setA_same]; simp [agents, hi, WSt.own, WSt.sh]
    · rw [setA_ne _ _ _ e]
  have hl : liveOf (st.set i (.quit k)) = liveOf st := by
    funext γ
    refine propext ⟨fun ⟨j, z, e, h1, h2⟩ => ?_, fun ⟨j, z, e, h1, h2⟩ => ?_⟩
    · by_cases hj : i = j
      · subst hj; rw [List.getElem?_set_self hlt] at h1; cases h1; exact absurd rfl h2
      · rw [List.getElem?_set_ne hj] at h1; exact ⟨j, z, e, h1, h2⟩
    · by_cases hj : i = j
      · subst hj; rw [hi] at h1; cases h1; exact absurd rfl h2
      · exact ⟨j, z, e, by rw [List.getElem?_set_ne hj]; exact h1, h2⟩
  refine ⟨_, _, runT_crowd_go (i := i + 1) hg (by rw [show (i + 1 == 0) = false from rfl]; exact hs W), ?_⟩
  rw [show MemOp.ofEvents (i + 1) g.frame.fn g.frame.place #[] = #[] from rfl, Array.append_empty]
  refine ⟨by simp [h.size], ?_, fun j x hx => ?_, by rw [hA]; exact h.sep, by rw [hA, hl]; exact h.tr, h.bs, fun j => ?_⟩
  · rw [get_woken _ _ _ _ _ (by omega), h.main, Option.map_some, hm.still]
  · by_cases hj : j = i
    · subst hj
      rw [List.getElem?_set_self hlt] at hx
      cases hx
      exact ⟨g', by rw [Array.getElem?_setIfInBounds_self_of_lt (by simp [h.size]; omega)], hq⟩
    · rw [List.getElem?_set_ne (fun e => hj e.symm)] at hx
      obtain ⟨k', h4, h5⟩ := h.wk j x hx
      exact ⟨k', by rw [get_woken _ _ _ _ _ (by omega), h4, Option.map_some, again_still h5], h5⟩
  · rw [h.jobs j]
    by_cases hj : j = i
    · subst hj; rw [List.getElem?_set_self hlt, hi]; rfl
    · rw [List.getElem?_set_ne (fun e => hj e.symm)]
end
end Go.Proofs.Ytkodpijedinanaa.Sim

namespace Go.Proofs.Ytkodpijedinanaa.Sim
open Go Go.Conc
set_option linter.unusedVariables false
set_option linter.unusedSimpArgs false

section
variable {P : Program} {W0 : World} {lo : Nat} {Own Sh : Blk} {pend : Nat → Option (Nat × Prm)} {st : List WSt} {m0 : Goroutine} {gs : Array Goroutine} {W : World} {t : Trace}
theorem pass_heap {c s d : Nat} {tm : Bool} (hc : W.heap[c]? = some (.chan 0 #[] false s s tm)) (b : Nat) :
    ((W.at d).setChan c 0 #[] false (s + 1) (s + 1) tm).heap[b]? = if b = c then some (.chan 0 #[] false (s + 1) (s + 1) tm) else W.heap[b]? := by
  have hlt := (Array.getElem?_eq_some_iff.1 hc).1
  show (W.heap.setIfInBounds c _)[b]? = _
  by_cases e : b = c
  · subst e; rw [if_pos rfl, Array.getElem?_setIfInBounds_self_of_lt hlt]
  · rw [if_neg e, Array.getElem?_setIfInBounds_ne (fun h => e h.symm)]
theorem pass_size {c s d : Nat} {tm : Bool} : ((W.at d).setChan c 0 #[] false (s + 1) (s + 1) tm).heap.size = W.heap.size := by
  show (W.heap.setIfInBounds c _).size = _
  simp
theorem rely_pass {c s d : Nat} {tm : Bool} (hc : W.heap[c]? = some (.chan 0 #[] false s s tm)) (O S : Blk) : Rely O S W ((W.at d).setChan c 0 #[] false (s + 1) (s + 1) tm) := by
  refine ⟨Nat.le_of_eq pass_size.symm, fun b o _ ho => ?_⟩
  rw [pass_heap hc]
  by_cases e : b = c
  · subst e
    rw [hc] at ho
    cases ho
    exact ⟨_, if_pos rfl, .inr ⟨0, false, s, s + 1, tm, rfl, rfl⟩⟩
  · exact ⟨o, by rw [if_neg e]; exact ho, .refl o⟩
/-- A communication: main has the worker's blocks. -/
theorem Inv.comm (h : Inv P W0 lo Own Sh pend st m0 gs W t) {i c s d k : Nat} {tm : Bool} {x : WSt} {m' q : Goroutine} {gs' : Array Goroutine} (hi : st[i]? = some x) (hjob : x.job ≠ none)
    (hc : W.heap[c]? = some (.chan 0 #[] false s s tm)) (hlo : lo ≤ c) (hq : QuitsIn P k q) (hsz : gs'.size = gs.size) (h0 : gs'[0]? = some m') (h1 : gs'[i + 1]? = some q) (ho : ∀ j, j ≠ 0 → j ≠ i + 1 → gs'[j]? = gs[j]?)
    {f1 f2 f3 f4 : FuncId} {p1 p2 p3 p4 : String} :
    Inv P W0 lo (fun b => Own b ∨ x.own b) Sh (updP pend i none) (st.set i (.quit k)) m' gs' ((W.at d).setChan c 0 #[] false (s + 1) (s + 1) tm)
      (t ++ (#[{ g := i + 1, fn := f1, pos := p1, act := .send c s }, { g := 0, fn := f2, pos := p2, act := .recv c s 0 }, { g := i + 1, fn := f3, pos := p3, act := .sendDone c s }, { g := 0, fn := f4, pos := p4, act := .recvDone c s }] : Trace)) := by
  have hlt := (List.getElem?_eq_some_iff.1 hi).1
  have hA : agents (fun b => Own b ∨ x.own b) Sh (st.set i (.quit k)) = setA (setA (agents Own Sh st) 0 (fun b => (agents Own Sh st 0).1 b ∨ (agents Own Sh st (i + 1)).1 b) (agents Own Sh st 0).2) (i + 1) (fun _ => False) (fun _ => False) := by
    rw [agents_set _ _ hlt, agents_main Own Sh]
    simp [agents, hi, WSt.own, WSt.sh]
  have hL : liveOf (st.set i (.quit k)) = fun γ => liveOf st γ ∧ γ ≠ i + 1 := by
    funext γ
    refine propext ⟨fun ⟨j, z, e, h1, h2⟩ => ?_, fun ⟨⟨j, z, e, h1, h2⟩, hne⟩ => ?_⟩
    · by_cases hj : i = j
      · subst hj; rw [List.getElem?_set_self hlt] at h1; cases h1; exact absurd rfl h2
      · rw [List.getElem?_set_ne hj] at h1; exact ⟨⟨j, z, e, h1, h2⟩, by omega⟩
    · exact ⟨j, z, e, by rw [List.getElem?_set_ne (by omega)]; exact h1, h2⟩
  refine ⟨by rw [hsz, h.size]; simp, h0, fun j y hy => ?_, ?_, ?_, ⟨h.bs.tape, h.bs.os, h.bs.out, fun b hb => ?_, by rw [pass_size]; exact h.bs.le⟩, fun j => ?_⟩
  · by_cases hj : j = i
    · subst hj
      rw [List.getElem?_set_self hlt] at hy
      cases hy
      exact ⟨q, h1, hq⟩
    · rw [List.getElem?_set_ne (fun e => hj e.symm)] at hy
      obtain ⟨g, h4, h5⟩ := h.wk j y hy
      exact ⟨g, by rw [ho _ (by omega) (by omega)]; exact h4, h5.rely (rely_pass hc _ _)⟩
  · rw [hA, pass_size]; exact h.sep.comm (by omega)
  · rw [hA, pass_size, hL]; exact h.tr.comm h.sep (by omega)
  · rw [pass_heap hc, if_neg (by omega)]; exact h.bs.heap b hb
  · unfold updP
    by_cases hj : j = i
    · subst hj; rw [if_pos rfl, List.getElem?_set_self hlt]; rfl
    · rw [if_neg hj, List.getElem?_set_ne (fun e => hj e.symm)]; exact h.jobs j
/-- Some blocks are shared from here on. -/
theorem Inv.share (h : Inv P W0 lo Own Sh pend st m0 gs W t) {Give : Blk} (hG : ∀ b, Give b → Own b) : Inv P W0 lo (fun b => Own b ∧ ¬ Give b) (fun b => Sh b ∨ Give b) pend st m0 gs W t := by
  have o1 : ∀ γ b, (agents (fun b => Own b ∧ ¬ Give b) (fun b => Sh b ∨ Give b) st γ).1 b → (agents Own Sh st γ).1 b ∧ (γ = 0 → ¬ Give b) := fun γ b h => by
    cases γ with
    | zero => exact ⟨h.1, fun _ => h.2⟩
    | succ j => exact ⟨h, fun e => by omega⟩
  have s1 : ∀ γ b, (agents (fun b => Own b ∧ ¬ Give b) (fun b => Sh b ∨ Give b) st γ).2 b → (agents Own Sh st γ).2 b ∨ (γ = 0 ∧ Give b) := fun γ b h => by
    cases γ with
    | zero => exact h.imp id fun h => ⟨rfl, h⟩
    | succ j => exact .inl h
  have hs := h.sep
  refine ⟨h.size, h.main, h.wk, ⟨fun γ δ b h1 hne h2 => hs.own _ _ _ (o1 γ b h1).1 hne (o1 δ b h2).1, fun γ δ b h1 h2 => ?_, fun γ b h1 => ?_, fun γ b h1 => ?_, fun γ b h1 => hs.lo _ _ (o1 γ b h1).1⟩, ⟨h.tr.clean, h.tr.words, h.tr.low, fun γ i x p hx hp hin => ?_, h.tr.done⟩, h.bs, h.jobs⟩
  · obtain ⟨h1, h1'⟩ := o1 γ b h1
    rcases s1 δ b h2 with h2 | ⟨_, h2⟩
    · exact hs.sh _ _ _ h1 h2
    · by_cases h0 : γ = 0
      · exact h1' h0 h2
      · exact hs.own _ _ _ h1 h0 (hG _ h2)
  · rcases s1 γ b h1 with h1 | ⟨_, h1⟩
    · exact .inl (hs.sub _ _ h1)
    · exact .inr h1
  · rcases h1 with h1 | h1
    · exact hs.lt _ _ (.inl (o1 γ b h1).1)
    · rcases s1 γ b h1 with h1 | ⟨_, h1⟩
      · exact hs.lt _ _ (.inr h1)
      · exact hs.lt 0 _ (.inl (hG _ h1))
  · refine h.tr.know γ i x p hx hp ?_
    rcases hin with h1 | ⟨h1, hw⟩
    · exact .inl (o1 γ _ h1).1
    · rcases s1 γ _ h1 with k1 | ⟨e1, k1⟩
      · exact .inr ⟨k1, hw⟩
      · subst e1; exact .inl (hG _ k1)
/-- A go statement. -/
theorem Inv.spawn (h : Inv P W0 lo Own Sh pend st m0 gs W t) (hr : m0.status = .running) {g' child : Goroutine} {c : Nat} {pr : Prm} {Give : Blk} {w : World} (hg : stepG P true m0 W = .spawn g' child W #[]) (hG : ∀ b, Give b → Own b)
    (hgo : Goes' P false (fun b => Sh b ∨ Give b) (AtSnd P lo c pr (fun b => Sh b ∨ Give b)) (fun _ => False) child w) (hrel : Rely (fun _ => False) (fun b => Sh b ∨ Give b) w W) (sl : Option (Nat × Nat)) :
    ∃ gs' u, runT P (crowd gs W sl) 0 = (.next (crowd gs' W sl), u) ∧
      Inv P W0 lo (fun b => Own b ∧ ¬ Give b) (fun b => Sh b ∨ Give b) (updP pend st.length (some (c, pr))) (st ++ [.work c pr (fun _ => False) (fun b => Sh b ∨ Give b) child w]) g' gs' W (t ++ u) := by
  refine ⟨_, _, runT_crowd_spawn (i := 0) h.main hg, ?_⟩
  rw [show ((MemOp.ofEvents 0 m0.frame.fn m0.frame.place #[]).push { g := 0, fn := m0.frame.fn, pos := m0.frame.place, act := .go gs.size }).push { g := gs.size, fn := child.frame.fn, pos := m0.frame.place, act := .start } =
    (#[{ g := 0, fn := m0.frame.fn, pos := m0.frame.place, act := .go (st.length + 1) }, { g := st.length + 1, fn := child.frame.fn, pos := m0.frame.place, act := .start }] : Trace) from by rw [h.size]; rfl]
  have hA : agents (fun b => Own b ∧ ¬ Give b) (fun b => Sh b ∨ Give b) (st ++ [.work c pr (fun _ => False) (fun b => Sh b ∨ Give b) child w]) =
      setA (setA (agents Own Sh st) 0 (fun b => (agents Own Sh st 0).1 b ∧ ¬ Give b) (fun b => (agents Own Sh st 0).2 b ∨ Give b)) (st.length + 1) (fun _ => False) (fun b => (agents Own Sh st 0).2 b ∨ Give b) := by
    rw [agents_push, agents_main Own Sh]
    simp [agents, WSt.own, WSt.sh]
  have hL : liveOf (st ++ [.work c pr (fun _ => False) (fun b => Sh b ∨ Give b) child w]) = fun γ => liveOf st γ ∨ γ = st.length + 1 := by
    funext γ
    refine propext ⟨fun ⟨j, z, e, h1, h2⟩ => ?_, fun h => ?_⟩
    · by_cases hj : j < st.length
      · rw [List.getElem?_append_left hj] at h1; exact .inl ⟨j, z, e, h1, h2⟩
      · have := (List.getElem?_eq_some_iff.1 h1).1
        simp at this
        exact .inr (by omega)
    · rcases h with ⟨j, z, e, h1, h2⟩ | rfl
      · exact ⟨j, z, e, by rw [List.getElem?_append_left (List.getElem?_eq_some_iff.1 h1).1]; exact h1, h2⟩
      · exact ⟨st.length, .work c pr (fun _ => False) (fun b => Sh b ∨ Give b) child w, rfl, by simp, by simp [WSt.job]⟩
  refine ⟨by simp [h.size], ?_, fun j y hy => ?_, ?_, ?_, h.bs, fun j => ?_⟩
  · have : 0 < gs.size := by rw [h.size]; omega
    rw [Array.getElem?_push, if_neg (by simp; omega), Array.getElem?_setIfInBounds_self_of_lt this]
  · by_cases hj : j < st.length
    · rw [List.getElem?_append_left hj] at hy
      obtain ⟨g, h4, h5⟩ := h.wk j y hy
      refine ⟨g, ?_, h5⟩
      rw [Array.getElem?_push, if_neg (by simp [h.size]; omega), get_two (by omega)]
      exact h4
    · have := (List.getElem?_eq_some_iff.1 hy).1
      simp at this
      have hj' : j = st.length := by omega
      subst hj'
      simp at hy
      subst hy
      refine ⟨child, ?_, rfl, hgo, hrel⟩
      rw [Array.getElem?_push, if_pos (by simp [h.size])]
  · rw [hA]; exact h.sep.spawn (by omega) hG
  · rw [hA, hL]
    refine h.tr.spawn h.sep (by omega) (fun b => ?_) hG (fun γ h => .inl h)
    have : st[st.length]? = none := by simp
    simp [agents, this]
  · unfold updP
    by_cases hj : j = st.length
    · subst hj; simp [WSt.job]
    · rw [if_neg hj, h.jobs j]
      by_cases hlt : j < st.length
      · rw [List.getElem?_append_left hlt]
      · rw [List.getElem?_eq_none (by omega), List.getElem?_eq_none (by simp; omega)]
/-- A worker waits at its send. -/
theorem Inv.park_step (h : Inv P W0 lo Own Sh pend st m0 gs W t) (hm : m0.status = .running) {i : Nat} {c : Nat} {pr : Prm} {own sh : Blk} {g : Goroutine} {w : World} (hi : st[i]? = some (.work c pr own sh g w)) (hs : AtSnd P lo c pr sh own g W) (sl : Option (Nat × Nat)) :
    ∃ gs' u, runT P (crowd gs W sl) (i + 1) = (.next (crowd gs' W sl), u) ∧ Inv P W0 lo Own Sh pend (st.set i (.park c pr own sh)) m0 gs' W (t ++ u) := by
  obtain ⟨k0, hk, rfl, h2, h3⟩ := h.wk i _ hi
  have hlt := (List.getElem?_eq_some_iff.1 hi).1
  obtain ⟨hr, hsc, hloc, v, k, hv, hq⟩ := hs
  obtain ⟨hst, ⟨s, tm, hc⟩, hpr⟩ := hv W (.refl _ _ _)
  have hnp : partners (gs.setIfInBounds (i + 1) ph) c false = [] := by
    refine partners_nil fun j x hx => ?_
    rcases getElem?_stand gs (i + 1) j x hx with ⟨_, rfl⟩ | ⟨hj, hx⟩
    · rfl
    · cases j with
      | zero =>
        rw [h.main] at hx
        cases hx
        exact offersAt_of_not_blocked (by rw [hm]; decide) _ _
      | succ j =>
        have hjl : j < st.length := by
          have := (Array.getElem?_eq_some_iff.1 hx).1
          rw [h.size] at this; omega
        obtain ⟨y, hy⟩ : ∃ y, st[j]? = some y := ⟨_, List.getElem?_eq_getElem hjl⟩
        obtain ⟨k', h4, h5⟩ := h.wk j y hy
        rw [hx] at h4
        cases h4
        cases y with
        | work c' pr' own' sh' g' w' =>
          obtain ⟨rfl, h6, _⟩ := h5
          exact offersAt_of_not_blocked (by rw [h6.running]; decide) _ _
        | park c' pr' own' sh' =>
          obtain ⟨g', v', k', rfl, _⟩ := h5
          exact offersAt_parked_send' _ _ _ _ _ _
        | quit k' =>
          exact offersAt_of_not_blocked (by rcases (show QuitsIn P k' x from h5).status with e | e <;> rw [e] <;> decide) _ _
  have hnw : ∀ cc ∈ (#[scase c v (.tuple #[])] : Array CommCase), NoWays W (gs.setIfInBounds (i + 1) ph) cc := fun cc hcc => by
    simp only [List.mem_toArray, List.mem_cons, List.not_mem_nil, or_false] at hcc
    subst hcc
    exact ⟨made_send _ _ hc, by simp [ways, scase, hc, hnp]⟩
  have hst' : stepG P (i + 1 == 0) k0 W = .comm k0 #[scase c v (.tuple #[])] true .send W #[] := hst
  refine ⟨_, _, crowd_waits hk hst' hnw, ?_⟩
  rw [show MemOp.ofEvents (i + 1) k0.frame.fn k0.frame.place #[] = #[] from rfl, Array.append_empty]
  have hA : agents Own Sh (st.set i (.park c pr own sh)) = agents Own Sh st := by
    rw [agents_set _ _ hlt]
    funext γ
    by_cases e : γ = i + 1
    · subst e; rw [setA_same]; simp [agents, hi, WSt.own, WSt.sh]
    · rw [setA_ne _ _ _ e]
  refine ⟨by simp [h.size], by rw [get_two (by omega)]; exact h.main, fun j x hx => ?_, by rw [hA]; exact h.sep, by rw [hA, liveOf_set hi (by simp [WSt.job]) (by simp [WSt.job])]; exact h.tr, h.bs, fun j => ?_⟩
  · by_cases hj : j = i
    · subst hj
      rw [List.getElem?_set_self hlt] at hx
      cases hx
      exact ⟨_, by rw [Array.getElem?_setIfInBounds_self_of_lt (by rw [h.size]; omega)], k0, v, k, rfl, hsc, hloc, fun W1 hr1 => ⟨(hv W1 hr1).2.1, (hv W1 hr1).2.2⟩, hq⟩
    · rw [List.getElem?_set_ne (fun e => hj e.symm)] at hx
      obtain ⟨k', h4, h5⟩ := h.wk j x hx
      exact ⟨k', by rw [get_two (by omega)]; exact h4, h5⟩
  · rw [h.jobs j]
    by_cases hj : j = i
    · subst hj; rw [List.getElem?_set_self hlt, hi]; rfl
    · rw [List.getElem?_set_ne (fun e => hj e.symm)]
end
end Go.Proofs.Ytkodpijedinanaa.Sim
