/- Texts that the claim imports, laid together: WBegB WLate WDue WGains WOk. No statement of their own. -/
import Derived.Deep.RegionHeld3
import Derived.Test.YtjdedflfdlhkdaaGreatDoorKah
import Derived.Test.YtjdedflfdlhkdaaGreatDoorKak
namespace Go.Proofs.YtjdedflfdlhkdaaGreatDoor
open Go.ChangeShapes Go.WideShapes Go.ChangeAt Go.RowKit
set_option linter.unusedVariables false
set_option linter.unusedSimpArgs false

/-- A branch, made anew. -/
structure BrNew (w w5 : World) (c : Cfg) (S A G T : Nat) : Prop where
  hb : Below w.heap.size w w5
  lo : w.heap.size ≤ S ∧ w.heap.size ≤ A ∧ w.heap.size ≤ G ∧ w.heap.size ≤ T
  ne : S ≠ A ∧ S ≠ G ∧ S ≠ T ∧ A ≠ G ∧ A ≠ T ∧ G ≠ T
  s : w5.heap[S]? = some (.cells (List.replicate c.items [Value.int .i64 0, .int .i64 0, .int .i64 0, .slice none 0 0]).flatten.toArray 106 (0, 0))
  a : w5.heap[A]? = some (.cells (ints (zer c.items)).toArray 3 (0, 0))
  g : w5.heap[G]? = some (.cells (ints (zer c.items)).toArray 3 (0, 0))
  t : w5.heap[T]? = some (.cells (List.replicate c.labs.length (Value.slice none 0 0)).toArray 43 (0, 0))
theorem flat4_get (m k j : Nat) (hk : k < m) (hj : j < 4) (x : List Value) (hx : x.length = 4) : (List.replicate m x).flatten[k * 4 + j]? = x[j]? := by
  induction m generalizing k with
  | zero => omega
  | succ m ih =>
    rw [List.replicate_succ, List.flatten_cons]
    cases k with
    | zero => rw [Nat.zero_mul, Nat.zero_add, List.getElem?_append_left (by omega)]
    | succ k =>
      rw [List.getElem?_append_right (by rw [hx]; omega), hx, show (k + 1) * 4 + j - 4 = k * 4 + j by omega]
      exact ih k (by omega)
theorem BrNew.slf {w w5 w6 : World} {c : Cfg} {S A G T : Nat} (h : BrNew w w5 c S A G T) (hk : w6.heap[S]? = w5.heap[S]?) (k : Nat) (hk2 : k < c.items) : Slf w6 S (k * 4) (.int .i64 0) (.int .i64 0) (.int .i64 0) (.slice none 0 0) := by
  refine ⟨_, by rw [hk]; exact h.s, ?_, ?_, ?_, ?_⟩
  · have := flat4_get c.items k 0 hk2 (by omega) [Value.int .i64 0, .int .i64 0, .int .i64 0, .slice none 0 0] rfl
    rw [Nat.add_zero] at this
    simpa using this
  · simpa using flat4_get c.items k 1 hk2 (by omega) [Value.int .i64 0, .int .i64 0, .int .i64 0, .slice none 0 0] rfl
  · simpa using flat4_get c.items k 2 hk2 (by omega) [Value.int .i64 0, .int .i64 0, .int .i64 0, .slice none 0 0] rfl
  · simpa using flat4_get c.items k 3 hk2 (by omega) [Value.int .i64 0, .int .i64 0, .int .i64 0, .slice none 0 0] rfl
section
variable {w0 w w5 wx w6 : World} {c : Cfg} {X : Adr} {own : Own} {a k S A G T Bb : Nat} {vR vQ v6 : Value}
theorem PAt.branch (h : PAt w0 w c X own a k vR vQ) (ha : a < c.n) (n : BrNew w w5 c S A G T) (hBb : w5.heap.size ≤ Bb) (hx : Below w5.heap.size w5 wx) (hB : wx.heap[Bb]? = some (brC c S A G T))
    (h6 : w6.ownsRow 0 99 1 v6 (a + 1) (((List.range a).map fun i => .pointer (some ⟨X.B i, 0, none⟩)) ++ [.pointer (some ⟨Bb, 0, none⟩)])) (hat : AtOr wx vR v6) (hg : wx.grownBy w6 vR.ownBlock) :
    ∃ X' own', (X'.vl = X.vl ∧ X'.vm = X.vm ∧ X'.W = X.W ∧ X'.O = X.O ∧ X'.L = X.L) ∧ PAt w0 (w6.setCell ⟨X.W, 5, none⟩ v6) c X' own' (a + 1) k v6 vQ := by
  have hwx : Below w.heap.size w wx := n.hb.trans (hx.mono n.hb.size)
  have ls := lt_of_heap n.s
  have la := lt_of_heap n.a
  have lg := lt_of_heap n.g
  have lt' := lt_of_heap n.t
  have lB := lt_of_heap hB
  have s5 := n.hb.size
  have sx := hx.size
  have s6 := hg.size
  obtain ⟨l1, l2, l3, l4⟩ := n.lo
  obtain ⟨d1, d2, d3, d4, d5, d6⟩ := n.ne
  have hWl := lt_of_heap h.head
  have hv6l : ∀ g, v6.ownBlock = some g → g < w6.heap.size := fun g hg => (owns_block_of h6 hg).2.1
  have hvR : ∀ g, vR.ownBlock = some g → g < w.heap.size ∧ own g = some (.row c.n 1) := fun g hg => ⟨h.lt g (by rw [h.rt g hg]; simp), h.rt g hg⟩
  have hsz : (w6.setCell ⟨X.W, 5, none⟩ v6).heap.size = w6.heap.size := by simp [World.setCell]
  have old : ∀ g, g < wx.heap.size → vR.ownBlock ≠ some g → g ≠ X.W → (w6.setCell ⟨X.W, 5, none⟩ v6).heap[g]? = wx.heap[g]? := fun g h1 h2 h3 => by
    rw [Below.heap_setCell _ _ _ _ h3, hg.block g h1 fun e => h2 e.symm]
  have hnR : ∀ g, w.heap.size ≤ g → vR.ownBlock ≠ some g := fun g h1 e => by have := (hvR g e).1; omega
  -- the new blocks stand
  have kB : (w6.setCell ⟨X.W, 5, none⟩ v6).heap[Bb]? = some (brC c S A G T) := by rw [old Bb lB (hnR _ (by omega)) (by omega)]; exact hB
  have kS : (w6.setCell ⟨X.W, 5, none⟩ v6).heap[S]? = w5.heap[S]? := by rw [old S (by omega) (hnR _ l1) (by omega), hx.block _ ls]
  have kA : (w6.setCell ⟨X.W, 5, none⟩ v6).heap[A]? = w5.heap[A]? := by rw [old A (by omega) (hnR _ l2) (by omega), hx.block _ la]
  have kG : (w6.setCell ⟨X.W, 5, none⟩ v6).heap[G]? = w5.heap[G]? := by rw [old G (by omega) (hnR _ l3) (by omega), hx.block _ lg]
  have kT : (w6.setCell ⟨X.W, 5, none⟩ v6).heap[T]? = w5.heap[T]? := by rw [old T (by omega) (hnR _ l4) (by omega), hx.block _ lt']
  let own' : Own := fun b => if b = Bb then some .fix else if b = S then some (.sh a) else if b = A then some (.ask a) else if b = G then some (.gain a) else if b = T then some (.st a) else if v6.ownBlock = some b then some (.row c.n 1) else own b
  have oldO : ∀ b, b < w.heap.size → own' b = own b := fun b hb => by
    simp only [own']
    rw [if_neg (by omega), if_neg (by omega), if_neg (by omega), if_neg (by omega), if_neg (by omega)]
    by_cases e : v6.ownBlock = some b
    · rw [if_pos e]
      rcases hat b e with h1 | h1
      · exact (h.rt b h1).symm
      · omega
    · rw [if_neg e]
  have hu : Upd (topT c) own own' w (w6.setCell ⟨X.W, 5, none⟩ v6) := by
    refine ⟨⟨?_, ?_, ?_, by rw [hsz]; omega, fun g hg1 hf => ?_⟩, oldO, fun b hb hn => ?_⟩
    · show w6.os = w.os
      exact hg.os.trans hwx.os
    · show w6.tape = w.tape
      exact hg.tape.trans hwx.tape
    · show w6.output = w.output
      exact hg.output.trans hwx.output
    · rw [old g (by omega) (fun e => hf ⟨_, (hvR g e).2, 1, rfl⟩) (fun e => hf ⟨_, by rw [e]; exact h.tw, 0, rfl⟩), hwx.block g hg1]
    · rw [hsz]
      simp only [own'] at hn
      by_cases e1 : b = Bb
      · omega
      · rw [if_neg e1] at hn
        by_cases e2 : b = S
        · omega
        · rw [if_neg e2] at hn
          by_cases e3 : b = A
          · omega
          · rw [if_neg e3] at hn
            by_cases e4 : b = G
            · omega
            · rw [if_neg e4] at hn
              by_cases e5 : b = T
              · omega
              · rw [if_neg e5] at hn
                by_cases e6 : v6.ownBlock = some b
                · exact hv6l b e6
                · rw [if_neg e6] at hn
                  exact absurd (h.lt b hn) (by omega)
  have hnT : ∀ b, v6.ownBlock = some b → own' b = some (.row c.n 1) := fun b e => by
    rcases hat b e with h1 | h1
    · rw [oldO b (hvR b h1).1]; exact h.rt b h1
    · simp only [own']
      rw [if_neg (by omega), if_neg (by omega), if_neg (by omega), if_neg (by omega), if_neg (by omega), if_pos e]
  have P := h.p.keep (Nat.le_of_lt ha) hu
  have hnew : ∀ b, own' b ≠ none → w0.heap.size ≤ b := fun b hn => by
    by_cases hb : b < w.heap.size
    · rw [oldO b hb] at hn; exact h.new b hn
    · have := h.bw.size; omega
  have u : ∀ (f : Nat → Nat) (v : Nat) (i : Nat), i < a → updF f a v i = f i := fun f v i hi => updF_ne _ _ (by omega)
  let X' : Adr := { X with B := updF X.B a Bb, S := updF X.S a S, A := updF X.A a A, G := updF X.G a G, T := updF X.T a T }
  have P' : Parts (w6.setCell ⟨X.W, 5, none⟩ v6) c X' own' a k := P.adr (fun i hi => u _ _ i hi) (fun i hi => u _ _ i hi) (fun i hi => u _ _ i hi) (fun i hi => u _ _ i hi) (fun i hi => u _ _ i hi) (fun i hi => rfl) rfl rfl rfl
  refine ⟨X', own', ⟨rfl, rfl, rfl, rfl, rfl⟩, ⟨hu.lt h.lt, hnew, ?_, ?_, ?_, ?_, hnT, ?_, ?_, ⟨?_, ?_, ?_, ?_, ?_, ?_, P'.bk, P'.off, P'.lost⟩⟩⟩
  · refine ⟨?_, ?_, ?_, by rw [hsz]; have := h.bw.size; omega, fun g hg1 => ?_⟩
    · show w6.os = w0.os
      exact hg.os.trans (hwx.os.trans h.bw.os)
    · show w6.tape = w0.tape
      exact hg.tape.trans (hwx.tape.trans h.bw.tape)
    · show w6.output = w0.output
      exact hg.output.trans (hwx.output.trans h.bw.output)
    · have h1 := h.bw.size
      have hWn := h.new X.W (by rw [h.tw]; simp)
      rw [old g (by omega) (fun e => by have := h.new g (by rw [(hvR g e).2]; simp); omega) (by omega), hwx.block g (by omega), h.bw.block g hg1]
  · show own' X.W = _
    rw [oldO X.W hWl]; exact h.tw
  · have e : (w6.setCell ⟨X.W, 5, none⟩ v6).heap[X.W]? = some (headC c X v6 vQ) := by
      have h1 : w6.heap[X.W]? = some (headC c X vR vQ) := by rw [hg.block X.W (by omega) (fun e => by have := (hvR X.W e.symm).2; rw [h.tw] at this; simp at this), hwx.block _ hWl]; exact h.head
      exact heap_setCell_same w6 X.W 5 _ _ v6 h1
    exact e
  · have e : ((List.range (a + 1)).map fun i => Value.pointer (some ⟨X'.B i, 0, none⟩)) = ((List.range a).map fun i => Value.pointer (some ⟨X.B i, 0, none⟩)) ++ [.pointer (some ⟨Bb, 0, none⟩)] := by
      rw [List.range_succ, List.map_append]
      congr 1
      · apply List.map_congr_left
        intro i hi
        simp only [X', u X.B Bb i (List.mem_range.1 hi)]
      · simp [X', updF_same]
    rw [e]
    refine owns_kept h6 fun g hg1 => Below.heap_setCell _ _ _ _ fun e0 => ?_
    have := hnT g hg1
    simp only at e0
    rw [e0, oldO X.W hWl, h.tw] at this
    simp at this
  · refine owns_kept h.rq fun g hg1 => ?_
    have hgl := (owns_block_of h.rq hg1).2.1
    rw [old g (by omega) (fun e => by have := (hvR g e).2; rw [h.qt g hg1] at this; simp at this) (fun e => by have := h.tw; rw [← e, h.qt g hg1] at this; simp at this), hwx.block g hgl]
  · intro g hg1
    rw [oldO g (owns_block_of h.rq hg1).2.1]; exact h.qt g hg1
  · intro i hi
    by_cases e : i = a
    · subst e; simp only [X', updF_same, own']; exact if_pos trivial
    · exact P'.tb i (by omega)
  · intro i hi
    by_cases e : i = a
    · subst e; simp only [X', updF_same]; exact kB
    · exact P'.br i (by omega)
  · intro i hi
    by_cases e : i = a
    · subst e
      simp only [X', updF_same]
      refine ⟨?_, by rw [hsz]; omega, fun k hk => ⟨.slice none 0 0, n.slf kS k hk, World.ownsRow_nil _ _ _ _, fun g hg => by cases hg⟩, fun k hk => shf0_ok⟩
      simp only [own']; rw [if_neg (by omega), if_pos trivial]
    · exact P'.sh i (by omega)
  · intro i hi
    by_cases e : i = a
    · subst e
      simp only [X', updF_same]
      refine ⟨?_, by rw [kA]; exact n.a⟩
      simp only [own']; rw [if_neg (by omega), if_neg (Ne.symm d1), if_pos trivial]
    · exact P'.asks i (by omega)
  · intro i hi
    by_cases e : i = a
    · subst e
      simp only [X', updF_same]
      refine ⟨?_, by rw [kG]; exact n.g⟩
      simp only [own']; rw [if_neg (by omega), if_neg (Ne.symm d2), if_neg (Ne.symm d4), if_pos trivial]
    · exact P'.gain i (by omega)
  · intro i hi
    by_cases e : i = a
    · subst e
      simp only [X', updF_same]
      refine ⟨?_, fun _ => .slice none 0 0, ⟨by rw [kT, n.t, List.map_const', List.length_range], fun j hj => HasT.of_owns (World.ownsRow_nil _ 0 _ _), fun j hj => EightL.nil⟩, fun j hj b off n c hv => by simp at hv⟩
      simp only [own']; rw [if_neg (by omega), if_neg (Ne.symm d3), if_neg (Ne.symm d5), if_neg (Ne.symm d6), if_pos trivial]
    · exact P'.st i (by omega)
theorem PAt.book {gw gg gq : Nat} (h : PAt w0 w c X own c.n k vR vQ) (hb : Below w.heap.size w w5) (hq : BookAt w5 S gw gg gq c.n c.n (bk0 c k)) (lo : w.heap.size ≤ S ∧ w.heap.size ≤ gw ∧ w.heap.size ≤ gg ∧ w.heap.size ≤ gq) (hx : Below w5.heap.size w5 wx)
    (h6 : w6.ownsRow 0 96 1 v6 (k + 1) (((List.range k).map fun i => .pointer (some ⟨X.K i, 0, none⟩)) ++ [.pointer (some ⟨S, 0, none⟩)])) (hat : AtOr wx vQ v6) (hg : wx.grownBy w6 vQ.ownBlock) :
    ∃ X' own', (X'.vl = X.vl ∧ X'.vm = X.vm ∧ X'.W = X.W ∧ X'.O = X.O ∧ X'.L = X.L) ∧ PAt w0 (w6.setCell ⟨X.W, 6, none⟩ v6) c X' own' c.n (k + 1) vR v6 := by
  have hwx : Below w.heap.size w wx := hb.trans (hx.mono hb.size)
  obtain ⟨b1, b2, b3, b4⟩ := hq.lt
  have s5 := hb.size
  have sx := hx.size
  have s6 := hg.size
  obtain ⟨l1, l2, l3, l4⟩ := lo
  have hWl := lt_of_heap h.head
  have hv6l : ∀ g, v6.ownBlock = some g → g < w6.heap.size := fun g hg => (owns_block_of h6 hg).2.1
  have hvQ : ∀ g, vQ.ownBlock = some g → g < w.heap.size ∧ own g = some (.row c.n 2) := fun g hg => ⟨h.lt g (by rw [h.qt g hg]; simp), h.qt g hg⟩
  have hsz : (w6.setCell ⟨X.W, 6, none⟩ v6).heap.size = w6.heap.size := by simp [World.setCell]
  have old : ∀ g, g < wx.heap.size → vQ.ownBlock ≠ some g → g ≠ X.W → (w6.setCell ⟨X.W, 6, none⟩ v6).heap[g]? = wx.heap[g]? := fun g h1 h2 h3 => by
    rw [Below.heap_setCell _ _ _ _ h3, hg.block g h1 fun e => h2 e.symm]
  have hnQ : ∀ g, w.heap.size ≤ g → vQ.ownBlock ≠ some g := fun g h1 e => by have := (hvQ g e).1; omega
  have kk : ∀ g, g < w5.heap.size → w.heap.size ≤ g → (w6.setCell ⟨X.W, 6, none⟩ v6).heap[g]? = w5.heap[g]? := fun g h1 h2 => by rw [old g (by omega) (hnQ _ h2) (by omega), hx.block _ h1]
  let own' : Own := fun b => if b = S ∨ b = gw ∨ b = gg ∨ b = gq then some (.bk k) else if v6.ownBlock = some b then some (.row c.n 2) else own b
  have oldO : ∀ b, b < w.heap.size → own' b = own b := fun b hb => by
    simp only [own']
    rw [if_neg (by omega)]
    by_cases e : v6.ownBlock = some b
    · rw [if_pos e]
      rcases hat b e with h1 | h1
      · exact (h.qt b h1).symm
      · omega
    · rw [if_neg e]
  have hu : Upd (topT c) own own' w (w6.setCell ⟨X.W, 6, none⟩ v6) := by
    refine ⟨⟨?_, ?_, ?_, by rw [hsz]; omega, fun g hg1 hf => ?_⟩, oldO, fun b hb hn => ?_⟩
    · show w6.os = w.os
      exact hg.os.trans hwx.os
    · show w6.tape = w.tape
      exact hg.tape.trans hwx.tape
    · show w6.output = w.output
      exact hg.output.trans hwx.output
    · rw [old g (by omega) (fun e => hf ⟨_, (hvQ g e).2, 2, rfl⟩) (fun e => hf ⟨_, by rw [e]; exact h.tw, 0, rfl⟩), hwx.block g hg1]
    · rw [hsz]
      simp only [own'] at hn
      by_cases e1 : b = S ∨ b = gw ∨ b = gg ∨ b = gq
      · omega
      · rw [if_neg e1] at hn
        by_cases e6 : v6.ownBlock = some b
        · exact hv6l b e6
        · rw [if_neg e6] at hn
          exact absurd (h.lt b hn) (by omega)
  have hnT : ∀ b, v6.ownBlock = some b → own' b = some (.row c.n 2) := fun b e => by
    rcases hat b e with h1 | h1
    · rw [oldO b (hvQ b h1).1]; exact h.qt b h1
    · simp only [own']
      rw [if_neg (by omega), if_pos e]
  have P := h.p.keep (Nat.le_refl _) hu
  have hnew : ∀ b, own' b ≠ none → w0.heap.size ≤ b := fun b hn => by
    by_cases hb : b < w.heap.size
    · rw [oldO b hb] at hn; exact h.new b hn
    · have := h.bw.size; omega
  let X' : Adr := { X with K := updF X.K k S }
  have P' : Parts (w6.setCell ⟨X.W, 6, none⟩ v6) c X' own' c.n k := P.adr (fun i hi => rfl) (fun i hi => rfl) (fun i hi => rfl) (fun i hi => rfl) (fun i hi => rfl) (fun i hi => updF_ne _ _ (by omega)) rfl rfl rfl
  refine ⟨X', own', ⟨rfl, rfl, rfl, rfl, rfl⟩, ⟨hu.lt h.lt, hnew, ?_, ?_, ?_, ?_, ?_, ?_, hnT, ⟨P'.tb, P'.br, P'.sh, P'.asks, P'.gain, P'.st, ?_, P'.off, P'.lost⟩⟩⟩
  · refine ⟨?_, ?_, ?_, by rw [hsz]; have := h.bw.size; omega, fun g hg1 => ?_⟩
    · show w6.os = w0.os
      exact hg.os.trans (hwx.os.trans h.bw.os)
    · show w6.tape = w0.tape
      exact hg.tape.trans (hwx.tape.trans h.bw.tape)
    · show w6.output = w0.output
      exact hg.output.trans (hwx.output.trans h.bw.output)
    · have h1 := h.bw.size
      have hWn := h.new X.W (by rw [h.tw]; simp)
      rw [old g (by omega) (fun e => by have := h.new g (by rw [(hvQ g e).2]; simp); omega) (by omega), hwx.block g (by omega), h.bw.block g hg1]
  · show own' X.W = _
    rw [oldO X.W hWl]; exact h.tw
  · have e : (w6.setCell ⟨X.W, 6, none⟩ v6).heap[X.W]? = some (headC c X vR v6) := by
      have h1 : w6.heap[X.W]? = some (headC c X vR vQ) := by rw [hg.block X.W (by omega) (fun e => by have := (hvQ X.W e.symm).2; rw [h.tw] at this; simp at this), hwx.block _ hWl]; exact h.head
      exact heap_setCell_same w6 X.W 6 _ _ v6 h1
    exact e
  · refine owns_kept h.rb fun g hg1 => ?_
    have hgl := (owns_block_of h.rb hg1).2.1
    rw [old g (by omega) (fun e => by have := (hvQ g e).2; rw [h.rt g hg1] at this; simp at this) (fun e => by have := h.tw; rw [← e, h.rt g hg1] at this; simp at this), hwx.block g hgl]
  · intro g hg1
    rw [oldO g (owns_block_of h.rb hg1).2.1]; exact h.rt g hg1
  · have e : ((List.range (k + 1)).map fun i => Value.pointer (some ⟨X'.K i, 0, none⟩)) = ((List.range k).map fun i => Value.pointer (some ⟨X.K i, 0, none⟩)) ++ [.pointer (some ⟨S, 0, none⟩)] := by
      rw [List.range_succ, List.map_append]
      congr 1
      · apply List.map_congr_left
        intro i hi
        have := List.mem_range.1 hi
        simp only [X']
        rw [updF_ne _ _ (by omega)]
      · simp [X', updF_same]
    rw [e]
    refine owns_kept h6 fun g hg1 => Below.heap_setCell _ _ _ _ fun e0 => ?_
    have := hnT g hg1
    simp only at e0
    rw [e0, oldO X.W hWl, h.tw] at this
    simp at this
  · intro i hi
    by_cases e : i = k
    · subst e
      simp only [X', updF_same]
      refine ⟨gw, gg, gq, c.n, hq.kept (kk S b1 l1) (kk gw b2 l2) (kk gg b3 l3) (kk gq b4 l4), ?_, ?_, ?_, ?_⟩ <;> (simp only [own']; exact if_pos (by simp))
    · exact P'.bk i (by omega)
end
end Go.Proofs.YtjdedflfdlhkdaaGreatDoor

namespace Go.Proofs.YtjdedflfdlhkdaaGreatDoor
open Go.ChangeShapes Go.WideShapes Go.ChangeAt Go.RowKit
set_option linter.unusedVariables false

section
variable {P : Program} {ops : Array Oper} {Q : Exit → Act → World → Prop} {md : Region.Mode} {T U : World → Prop} {app : Nat}

/-- T always; U as long as 'app' has not come up. -/
def HeldAt (T U : World → Prop) (app : Nat) (listed : Array Bool) (w : World) : Prop := T w ∧ (listed.getD app false = true ∨ U w)
/-- Whatever order is picked; behind each operation T, and U as long as 'app' has not come up. -/
def wpAnyL (P : Program) (md : Region.Mode) (ops : Array Oper) (Q : Exit → Act → World → Prop) (T U : World → Prop) (app : Nat) : Nat → Array Bool → Act → World → Prop
  | 0, listed, a, w => Region.ready md ops listed = [] ∧ Q .normal a w
  | fuel + 1, listed, a, w =>
    (Region.ready md ops listed = [] → Q .normal a w) ∧
    ∀ i ∈ Region.ready md ops listed, wpOp P ops Q i (fun a' w' => HeldAt T U app (listed.setIfInBounds i true) w' ∧ wpAnyL P md ops Q T U app fuel (listed.setIfInBounds i true) a' w') a w

theorem wpAny_of_late : ∀ (fuel : Nat) (listed : Array Bool) (a : Act) (w : World), wpAnyL P md ops Q T U app fuel listed a w → wpAny P md ops Q fuel listed a w
  | 0, _, _, _, h => h
  | fuel + 1, _, _, _, h => ⟨h.1, fun i hi => wpOp_mono (fun a' w' h' => wpAny_of_late fuel _ a' w' h'.2) (h.2 i hi)⟩

/-- 'app' waits for i. -/
def Waits (md : Region.Mode) (ops : Array Oper) (app i : Nat) : Prop := ∃ o, ops[app]? = some o ∧ ∃ e ∈ o.after, Region.binds md e = true ∧ e.on = i
theorem Waits.not_ready {i : Nat} {listed : Array Bool} (h : Waits md ops app i) (hi : listed.getD i true = false) : app ∉ Region.ready md ops listed := fun hr => by
  obtain ⟨_, o, ho, hall⟩ := mem_ready.1 hr
  obtain ⟨o', ho', e, he, hb, rfl⟩ := h
  obtain rfl : o' = o := by simpa [ho'] using ho
  have h1 := hall e he hb
  rcases Nat.lt_or_ge e.on listed.size with h' | h'
  · simp [h'] at hi h1; rw [hi] at h1; cases h1
  · simp [Array.getElem?_eq_none h'] at h1
theorem HeldAt.set {listed : Array Bool} {w : World} (h : HeldAt T U app listed w) (i : Nat) : HeldAt T U app (listed.setIfInBounds i true) w :=
  ⟨h.1, h.2.imp (fun h => _root_.Go.getD_set_true h) id⟩

theorem wpAnyL_first {i : Nat} {oi : Oper} {v : Value} {U' : World → Prop} (hi : ops[i]? = some oi) (hsel : ∀ (j : Nat) (o : Oper) cs b, ops[j]? = some o → o.op ≠ .select cs b)
    (hQ : ∀ c a w, Q (.panic c) (a.put oi.dst v) w → Q (.panic c) a w) (hU : ∀ w, T w → U w → U' w) (hne : i ≠ app) (hk : Waits md ops app i ∨ ∀ w, T w → U' w) :
    ∀ (fuel : Nat) (listed : Array Bool) (a : Act) (w : World),
      (∀ j oj, ops[j]? = some oj → j ≠ i → listed.getD j true = false → (∀ e ∈ oj.after, Region.binds md e = true → e.on ≠ i) → oi.apart ops oj = true) →
      i ∈ Region.ready md ops listed → YieldsIf P ops U' oi v a → HeldAt T U app listed w → (listed.getD app false = false ∨ ∀ w, T w → U' w) →
      wpAnyL P md ops Q T U app fuel (listed.setIfInBounds i true) (a.put oi.dst v) w → wpAnyL P md ops Q T U app (fuel + 1) listed a w := by
  have hget : ∀ (listed : Array Bool) w, HeldAt T U app listed w → (listed.getD app false = false ∨ ∀ w, T w → U' w) → U' w := fun listed w h hl => by
    rcases hl with hl | hl
    · rcases h.2 with h2 | h2
      · rw [hl] at h2; cases h2
      · exact hU w h.1 h2
    · exact hl w h.1
  intro fuel
  induction fuel with
  | zero =>
    intro listed a w _ hr hy hS hl H
    refine ⟨fun h => (by rw [h] at hr; cases hr), fun j hj => ?_⟩
    by_cases hji : j = i
    · subst hji; exact hy.wpOp hi (hget _ _ hS hl) ⟨hS.set _, H⟩
    · have := ready_mono hj hji
      rw [H.1] at this
      cases this
  | succ fuel ih =>
    intro listed a w hfree hr hy hS hl H
    refine ⟨fun h => (by rw [h] at hr; cases hr), fun j hj => ?_⟩
    by_cases hji : j = i
    · subst hji; exact hy.wpOp hi (hget _ _ hS hl) ⟨hS.set _, H⟩
    · have h1 := H.2 j (ready_mono hj hji)
      obtain ⟨hjun, oj, hoj, hall⟩ := mem_ready.1 hj
      have hiun := (mem_ready.1 hr).1
      have hnot : ∀ e ∈ oj.after, Region.binds md e = true → e.on ≠ i := fun e he hb heq => by
        have h1 := hall e he hb
        have h0 := hiun
        rw [heq] at h1
        rcases Nat.lt_or_ge i listed.size with h' | h'
        · simp [h'] at h0 h1; rw [h0] at h1; cases h1
        · simp [Array.getElem?_eq_none h'] at h1
      have h2 := wpOp_putIf hoj (hfree j oj hoj hji hjun hnot) (fun cs b => hsel i oi cs b hi) (fun cs b => hsel j oj cs b hoj) hQ hy h1
      have hfree' : ∀ k ok, ops[k]? = some ok → k ≠ i → (listed.setIfInBounds j true).getD k true = false →
          (∀ e ∈ ok.after, Region.binds md e = true → e.on ≠ i) → oi.apart ops ok = true := fun k ok hk hki hun hno => by
        refine hfree k ok hk hki ?_ hno
        by_cases hjk : j = k
        · subst hjk; exact hjun
        · rw [_root_.Go.getD_set_ne true hjk] at hun; exact hun
      have hl' : (listed.setIfInBounds j true).getD app false = false ∨ ∀ w, T w → U' w := by
        rcases hk with hk | hk
        · rcases hl with hl | hl
          · refine .inl ?_
            have hja : j ≠ app := fun e => hk.not_ready hiun (e ▸ hj)
            rw [_root_.Go.getD_set_ne false hja]; exact hl
          · exact .inr hl
        · exact .inr hk
      refine wpOp_mono (fun a' w' h3 => ⟨?_, ih (listed.setIfInBounds j true) a' w' hfree' (ready_mono hr (Ne.symm hji)) h3.1 ?_ hl' ?_⟩) h2
      · obtain ⟨hT, hA⟩ := h3.2.1
        refine ⟨hT, hA.imp (fun h => ?_) id⟩
        rw [Array.setIfInBounds_comm _ _ (Ne.symm hji), _root_.Go.getD_set_ne false hne] at h
        exact h
      · obtain ⟨hT, hA⟩ := h3.2.1
        refine ⟨hT, hA.imp (fun h => ?_) id⟩
        rw [Array.setIfInBounds_comm _ _ (Ne.symm hji), _root_.Go.getD_set_ne false hne] at h
        exact h
      · rw [Array.setIfInBounds_comm _ _ hji]
        exact h3.2.2

/-- It yields in every world that meets T. -/
theorem wpAnyL_takeT {i : Nat} {oi : Oper} {v : Value} {fuel : Nat} {listed : Array Bool} {a : Act} {w : World} (hi : ops[i]? = some oi)
    (hs : Region.noSelect ops = true) (hf : Region.free md ops listed i = true) (hr : (Region.ready md ops listed).contains i = true) (hne : (i == app) = false)
    (hQ : ∀ c a w, Q (.panic c) (a.put oi.dst v) w → Q (.panic c) a w) (hy : YieldsIf P ops T oi v a) (hS : HeldAt T U app listed w)
    (h : HeldAt T U app (listed.setIfInBounds i true) w → wpAnyL P md ops Q T U app fuel (listed.setIfInBounds i true) (a.put oi.dst v) w) : wpAnyL P md ops Q T U app (fuel + 1) listed a w :=
  wpAnyL_first (U' := T) hi (Region.noSelect_spec hs) hQ (fun _ h _ => h) (by simpa using hne) (.inr fun _ h => h) fuel listed a w (Region.free_spec hi hf) (by simpa using hr) hy hS (.inr fun _ h => h) (h (hS.set i))
def waitsB (md : Region.Mode) (ops : Array Oper) (app i : Nat) : Bool := match ops[app]? with | some o => o.after.any fun e => Region.binds md e && e.on == i | none => false
theorem waits_of {i : Nat} (h : waitsB md ops app i = true) : Waits md ops app i := by
  unfold waitsB at h
  split at h
  · rename_i o ho
    obtain ⟨e, he, hb⟩ := Array.any_eq_true'.1 h
    simp only [Bool.and_eq_true, beq_iff_eq] at hb
    exact ⟨o, ho, e, he, hb.1, hb.2⟩
  · cases h
/-- It yields in every world that meets U: 'app' waits for it. -/
theorem wpAnyL_takeU {i : Nat} {oi : Oper} {v : Value} {fuel : Nat} {listed : Array Bool} {a : Act} {w : World} (hi : ops[i]? = some oi)
    (hs : Region.noSelect ops = true) (hf : Region.free md ops listed i = true) (hr : (Region.ready md ops listed).contains i = true) (hne : (i == app) = false) (hw : waitsB md ops app i = true) (hl : listed.getD app false = false)
    (hQ : ∀ c a w, Q (.panic c) (a.put oi.dst v) w → Q (.panic c) a w) (hy : YieldsIf P ops (fun w => T w ∧ U w) oi v a) (hS : HeldAt T U app listed w)
    (h : HeldAt T U app (listed.setIfInBounds i true) w → wpAnyL P md ops Q T U app fuel (listed.setIfInBounds i true) (a.put oi.dst v) w) : wpAnyL P md ops Q T U app (fuel + 1) listed a w :=
  wpAnyL_first (U' := fun w => T w ∧ U w) hi (Region.noSelect_spec hs) hQ (fun _ h h' => ⟨h, h'⟩) (by simpa using hne) (.inl (waits_of hw)) fuel listed a w (Region.free_spec hi hf) (by simpa using hr) hy hS (.inl hl) (h (hS.set i))
theorem wpAnyL_all {rs : List Nat} {fuel : Nat} {listed : Array Bool} {a : Act} {w : World} (hr : Region.ready md ops listed = rs) (hne : rs ≠ [])
    (h : ∀ i ∈ rs, wpOp P ops Q i (fun a' w' => HeldAt T U app (listed.setIfInBounds i true) w' ∧ wpAnyL P md ops Q T U app fuel (listed.setIfInBounds i true) a' w') a w) : wpAnyL P md ops Q T U app (fuel + 1) listed a w :=
  ⟨fun h0 => absurd (hr ▸ h0) hne, hr ▸ h⟩
theorem wpAnyL_done {listed : Array Bool} {a : Act} {w : World} (hr : Region.ready md ops listed = []) (h : Q .normal a w) : ∀ fuel, wpAnyL P md ops Q T U app fuel listed a w
  | 0 => ⟨hr, h⟩
  | _ + 1 => ⟨fun _ => h, by rw [hr]; simp⟩
theorem wp_region_late {id : Nat} {a : Act} {w : World} (hm : P.follows .mixedOrders = true) (T U : World → Prop) (app : Nat) (hT : T w.drew) (hU : U w.drew)
    (h : HeldAt T U app (Array.replicate ops.size false) w.drew → wpAnyL P .any ops Q T U app ops.size (Array.replicate ops.size false) a w.drew) : (Code.region id ops true).wp P Q a w :=
  wp_region_any hm (wpAny_of_late _ _ _ _ (h ⟨hT, .inr hU⟩))

def AllReadyL (P : Program) (md : Region.Mode) (ops : Array Oper) (Q : Exit → Act → World → Prop) (T U : World → Prop) (app : Nat) (fuel : Nat) (listed : Array Bool) (a : Act) (w : World) (rs : List Nat) : Prop :=
  ∀ i ∈ rs, wpOp P ops Q i (fun a' w' => HeldAt T U app (listed.setIfInBounds i true) w' ∧ wpAnyL P md ops Q T U app fuel (listed.setIfInBounds i true) a' w') a w
theorem AllReadyL.nil {fuel : Nat} {listed : Array Bool} {a : Act} {w : World} : AllReadyL P md ops Q T U app fuel listed a w [] := fun _ h => by cases h
theorem AllReadyL.cons {fuel : Nat} {listed : Array Bool} {a : Act} {w : World} {i : Nat} {o : Oper} {rs : List Nat} (ho : ops[i]? = some o)
    (h : ∀ K' : Act → World → Prop, Shut (∀ a w, HeldAt T U app (listed.setIfInBounds i true) w → (HeldAt T U app (listed.setIfInBounds i true) w → wpAnyL P md ops Q T U app fuel (listed.setIfInBounds i true) a w) → K' a w) → if Region.wanted o (yielded ops a.tmps) = true then Oper.wp P o a w K' Q else K' (a.put o.dst undef) w)
    (hs : AllReadyL P md ops Q T U app fuel listed a w rs) : AllReadyL P md ops Q T U app fuel listed a w (i :: rs) := fun j hj => by
  rcases List.mem_cons.1 hj with rfl | hj
  · exact wpOp_step ho (fun K' hK => h K' (fun a w hS hW => hK a w ⟨hS, hW hS⟩))
  · exact hs j hj
theorem wpAnyL_ready {rs : List Nat} {fuel : Nat} {listed : Array Bool} {a : Act} {w : World} (hr : Region.ready md ops listed = rs) (hne : rs ≠ [])
    (h : AllReadyL P md ops Q T U app fuel listed a w rs) : wpAnyL P md ops Q T U app (fuel + 1) listed a w := wpAnyL_all hr hne h
end
theorem held_alloc {a1 a2 : Addr} {v1 v2 : Value} {app : Nat} {listed listed' : Array Bool} {w : World} {o : Obj} (h : HeldAt (fun Z => Z.cell? a1 = some v1) (fun Z => Z.cell? a2 = some v2) app listed w) (hl : listed.getD app false = false) :
    HeldAt (fun Z => Z.cell? a1 = some v1) (fun Z => Z.cell? a2 = some v2) app listed' (w.alloc o) := by
  obtain ⟨hT, hU⟩ := h
  have e : ∀ (a : Addr) (v : Value), w.cell? a = some v → (w.alloc o).cell? a = some v := fun a v h => by rw [World.cell?_alloc_lt _ _ _ (World.block_lt_of_cell? w a h)]; exact h
  refine ⟨e _ _ hT, .inr ?_⟩
  rcases hU with hU | hU
  · rw [hl] at hU; cases hU
  · exact e _ _ hU
theorem wpAnyL_listed {P : Program} {md : Region.Mode} {ops : Array Oper} {Q : Exit → Act → World → Prop} {T U : World → Prop} {app fuel : Nat} {l l' : Array Bool} {a : Act} {w : World} (e : l = l') (h : wpAnyL P md ops Q T U app fuel l' a w) : wpAnyL P md ops Q T U app fuel l a w := e ▸ h
theorem heldAt_listed {T U : World → Prop} {app : Nat} {l l' : Array Bool} {w : World} (e : l = l') (h : HeldAt T U app l w) : HeldAt T U app l' w := e ▸ h
/-- Four new blocks, in whatever order. -/
structure Four (w w5 : World) (AS AI AT : Array Value) (S A G T : Nat) : Prop where
  s : w5.heap[S]? = some (.cells AS 106)
  a : w5.heap[A]? = some (.cells AI 3)
  g : w5.heap[G]? = some (.cells AI 3)
  t : w5.heap[T]? = some (.cells AT 43)
  lo : w.heap.size ≤ S ∧ w.heap.size ≤ A ∧ w.heap.size ≤ G ∧ w.heap.size ≤ T
  ne : S ≠ A ∧ S ≠ G ∧ S ≠ T ∧ A ≠ G ∧ A ≠ T ∧ G ≠ T
  bw : Below w.heap.size w w5
/-- What many ways come to is said once. -/
theorem joinT {G : Prop} (TT : Prop) (main : TT → G) (tail : TT) : G := main tail
theorem joinT2 {H G : Prop} (TT : Prop) (main : Hid TT → H → G) (tail : TT) : H → G := main tail
end Go.Proofs.YtjdedflfdlhkdaaGreatDoor

namespace Go.Proofs.YtjdedflfdlhkdaaGreatDoor
open Go.ChangeShapes Go.WideShapes Go.ChangeAt Go.RowKit
set_option linter.unusedVariables false
set_option linter.unusedSimpArgs false

def nil0 : Value := .slice none 0 0
/-- The cells of what is told. -/
def tldC (code who : Int) (k : Stk) (value : Int) (sv fv rv : Value) : List Value :=
  [.int .i64 code, .int .i64 who, .int .i64 k.code, .int .i64 k.id, .int .i64 k.free, .int .i64 k.held, .int .i64 k.used, .int .i64 value, sv, fv, rv]
theorem tldC_len (code who : Int) (k : Stk) (value : Int) (sv fv rv : Value) : (tldC code who k value sv fv rv).length = 11 := rfl
theorem eleven_at {W : World} {b : Nat} {a0 a1 a2 a3 a4 a5 a6 a7 a8 a9 a10 : Value} {e : TypeId} (h : W.heap[b]? = some (.cells #[a0, a1, a2, a3, a4, a5, a6, a7, a8, a9, a10] e (0, 0))) :
    (W.cell? ⟨b, 0, none⟩ = some a0 ∧ W.cell? ⟨b, 1, none⟩ = some a1 ∧ W.cell? ⟨b, 2, none⟩ = some a2 ∧ W.cell? ⟨b, 3, none⟩ = some a3 ∧ W.cell? ⟨b, 4, none⟩ = some a4 ∧ W.cell? ⟨b, 5, none⟩ = some a5 ∧ W.cell? ⟨b, 6, none⟩ = some a6 ∧ W.cell? ⟨b, 7, none⟩ = some a7 ∧ W.cell? ⟨b, 8, none⟩ = some a8 ∧ W.cell? ⟨b, 9, none⟩ = some a9 ∧ W.cell? ⟨b, 10, none⟩ = some a10) ∧ ∀ j, W.frozen? ⟨b, j, none⟩ = false := by
  refine ⟨⟨?_, ?_, ?_, ?_, ?_, ?_, ?_, ?_, ?_, ?_, ?_⟩, fun j => by simp [World.frozen?, h]⟩ <;> rw [cell_of_row W _ _ _ _ _ h] <;> rfl
/-- All eleven are written. -/
def put11 (w : World) (S : Nat) (x0 x1 x2 x3 x4 x5 x6 x7 x8 x9 x10 : Value) : World := (((((((((((w.setCell ⟨S, 0, none⟩ x0).setCell ⟨S, 1, none⟩ x1).setCell ⟨S, 2, none⟩ x2).setCell ⟨S, 3, none⟩ x3).setCell ⟨S, 4, none⟩ x4).setCell ⟨S, 5, none⟩ x5).setCell ⟨S, 6, none⟩ x6).setCell ⟨S, 7, none⟩ x7).setCell ⟨S, 8, none⟩ x8).setCell ⟨S, 9, none⟩ x9).setCell ⟨S, 10, none⟩ x10)
set_option maxHeartbeats 4000000 in
theorem put11_at {w : World} {S : Nat} {a0 a1 a2 a3 a4 a5 a6 a7 a8 a9 a10 : Value} {e : TypeId} (h : w.heap[S]? = some (.cells #[a0, a1, a2, a3, a4, a5, a6, a7, a8, a9, a10] e (0, 0))) (x0 x1 x2 x3 x4 x5 x6 x7 x8 x9 x10 : Value) : (put11 w S x0 x1 x2 x3 x4 x5 x6 x7 x8 x9 x10).heap[S]? = some (.cells #[x0, x1, x2, x3, x4, x5, x6, x7, x8, x9, x10] e (0, 0)) := by
  unfold put11
  have h0 : (w.setCell ⟨S, 0, none⟩ x0).heap[S]? = some (.cells #[x0, a1, a2, a3, a4, a5, a6, a7, a8, a9, a10] e (0, 0)) := heap_setCell_same _ S 0 _ _ x0 h
  have h1 : ((w.setCell ⟨S, 0, none⟩ x0).setCell ⟨S, 1, none⟩ x1).heap[S]? = some (.cells #[x0, x1, a2, a3, a4, a5, a6, a7, a8, a9, a10] e (0, 0)) := heap_setCell_same _ S 1 _ _ x1 h0
  have h2 : (((w.setCell ⟨S, 0, none⟩ x0).setCell ⟨S, 1, none⟩ x1).setCell ⟨S, 2, none⟩ x2).heap[S]? = some (.cells #[x0, x1, x2, a3, a4, a5, a6, a7, a8, a9, a10] e (0, 0)) := heap_setCell_same _ S 2 _ _ x2 h1
  have h3 : ((((w.setCell ⟨S, 0, none⟩ x0).setCell ⟨S, 1, none⟩ x1).setCell ⟨S, 2, none⟩ x2).setCell ⟨S, 3, none⟩ x3).heap[S]? = some (.cells #[x0, x1, x2, x3, a4, a5, a6, a7, a8, a9, a10] e (0, 0)) := heap_setCell_same _ S 3 _ _ x3 h2
  have h4 : (((((w.setCell ⟨S, 0, none⟩ x0).setCell ⟨S, 1, none⟩ x1).setCell ⟨S, 2, none⟩ x2).setCell ⟨S, 3, none⟩ x3).setCell ⟨S, 4, none⟩ x4).heap[S]? = some (.cells #[x0, x1, x2, x3, x4, a5, a6, a7, a8, a9, a10] e (0, 0)) := heap_setCell_same _ S 4 _ _ x4 h3
  have h5 : ((((((w.setCell ⟨S, 0, none⟩ x0).setCell ⟨S, 1, none⟩ x1).setCell ⟨S, 2, none⟩ x2).setCell ⟨S, 3, none⟩ x3).setCell ⟨S, 4, none⟩ x4).setCell ⟨S, 5, none⟩ x5).heap[S]? = some (.cells #[x0, x1, x2, x3, x4, x5, a6, a7, a8, a9, a10] e (0, 0)) := heap_setCell_same _ S 5 _ _ x5 h4
  have h6 : (((((((w.setCell ⟨S, 0, none⟩ x0).setCell ⟨S, 1, none⟩ x1).setCell ⟨S, 2, none⟩ x2).setCell ⟨S, 3, none⟩ x3).setCell ⟨S, 4, none⟩ x4).setCell ⟨S, 5, none⟩ x5).setCell ⟨S, 6, none⟩ x6).heap[S]? = some (.cells #[x0, x1, x2, x3, x4, x5, x6, a7, a8, a9, a10] e (0, 0)) := heap_setCell_same _ S 6 _ _ x6 h5
  have h7 : ((((((((w.setCell ⟨S, 0, none⟩ x0).setCell ⟨S, 1, none⟩ x1).setCell ⟨S, 2, none⟩ x2).setCell ⟨S, 3, none⟩ x3).setCell ⟨S, 4, none⟩ x4).setCell ⟨S, 5, none⟩ x5).setCell ⟨S, 6, none⟩ x6).setCell ⟨S, 7, none⟩ x7).heap[S]? = some (.cells #[x0, x1, x2, x3, x4, x5, x6, x7, a8, a9, a10] e (0, 0)) := heap_setCell_same _ S 7 _ _ x7 h6
  have h8 : (((((((((w.setCell ⟨S, 0, none⟩ x0).setCell ⟨S, 1, none⟩ x1).setCell ⟨S, 2, none⟩ x2).setCell ⟨S, 3, none⟩ x3).setCell ⟨S, 4, none⟩ x4).setCell ⟨S, 5, none⟩ x5).setCell ⟨S, 6, none⟩ x6).setCell ⟨S, 7, none⟩ x7).setCell ⟨S, 8, none⟩ x8).heap[S]? = some (.cells #[x0, x1, x2, x3, x4, x5, x6, x7, x8, a9, a10] e (0, 0)) := heap_setCell_same _ S 8 _ _ x8 h7
  have h9 : ((((((((((w.setCell ⟨S, 0, none⟩ x0).setCell ⟨S, 1, none⟩ x1).setCell ⟨S, 2, none⟩ x2).setCell ⟨S, 3, none⟩ x3).setCell ⟨S, 4, none⟩ x4).setCell ⟨S, 5, none⟩ x5).setCell ⟨S, 6, none⟩ x6).setCell ⟨S, 7, none⟩ x7).setCell ⟨S, 8, none⟩ x8).setCell ⟨S, 9, none⟩ x9).heap[S]? = some (.cells #[x0, x1, x2, x3, x4, x5, x6, x7, x8, x9, a10] e (0, 0)) := heap_setCell_same _ S 9 _ _ x9 h8
  have h10 : (((((((((((w.setCell ⟨S, 0, none⟩ x0).setCell ⟨S, 1, none⟩ x1).setCell ⟨S, 2, none⟩ x2).setCell ⟨S, 3, none⟩ x3).setCell ⟨S, 4, none⟩ x4).setCell ⟨S, 5, none⟩ x5).setCell ⟨S, 6, none⟩ x6).setCell ⟨S, 7, none⟩ x7).setCell ⟨S, 8, none⟩ x8).setCell ⟨S, 9, none⟩ x9).setCell ⟨S, 10, none⟩ x10).heap[S]? = some (.cells #[x0, x1, x2, x3, x4, x5, x6, x7, x8, x9, x10] e (0, 0)) := heap_setCell_same _ S 10 _ _ x10 h9
  exact h10
theorem put11_below {B : Nat} {a w : World} {S : Nat} (h : Below B a w) (hS : B ≤ S) (x0 x1 x2 x3 x4 x5 x6 x7 x8 x9 x10 : Value) : Below B a (put11 w S x0 x1 x2 x3 x4 x5 x6 x7 x8 x9 x10) := by
  unfold put11
  exact ((((((((((h.setCell hS _).setCell hS _).setCell hS _).setCell hS _).setCell hS _).setCell hS _).setCell hS _).setCell hS _).setCell hS _).setCell hS _).setCell hS _
theorem put11_size (w : World) (S : Nat) (x0 x1 x2 x3 x4 x5 x6 x7 x8 x9 x10 : Value) : (put11 w S x0 x1 x2 x3 x4 x5 x6 x7 x8 x9 x10).heap.size = w.heap.size := by simp [put11, World.setCell]
set_option maxRecDepth 100000 in
set_option maxHeartbeats 2000000 in
theorem cNo (c : Int) (w : World) : Calls Tryz.prog 57 #[.int .i64 c] w fun e w' => e = .returned (.agg (tldC c 0 stk0 0 nil0 nil0 nil0).toArray) ∧ Below w.heap.size w w' := by
  have hb := (Below.refl w.heap.size w).alloc (Nat.le_refl _) (.cells (tldC 0 0 stk0 0 nil0 nil0 nil0).toArray 57)
  have hn := heap_alloc_new w (.cells (tldC 0 0 stk0 0 nil0 nil0 nil0).toArray 57)
  unfold tldC stk0 nil0 at *
  simp only at hb hn ⊢
  obtain ⟨⟨y0, y1, y2, y3, y4, y5, y6, y7, y8, y9, y10⟩, hf⟩ := eleven_at hn
  have hf0 := hf 0
  have hf1 := hf 1
  have hf2 := hf 2
  have hf3 := hf 3
  have hf4 := hf 4
  have hf5 := hf 5
  have hf6 := hf 6
  have hf7 := hf 7
  have hf8 := hf 8
  have hf9 := hf 9
  have hf10 := hf 10
  have Hb := Lib.hid hb
  have Hn := Lib.hid hn
  clear hb hn hf
  go_enter Tryz.func57, Tryz.ntmps57
  go_upto_region 1 with (fail)
  generalize (w.alloc (.cells #[.int .i64 0, .int .i64 0, .int .i64 0, .int .i64 0, .int .i64 0, .int .i64 0, .int .i64 0, .int .i64 0, .slice none 0 0, .slice none 0 0, .slice none 0 0] 57)) = W at *
  obtain ⟨W6, hW6⟩ : ∃ x, x = put11 W w.heap.size (.int .i64 c) (.int .i64 0) (.int .i64 0) (.int .i64 0) (.int .i64 0) (.int .i64 0) (.int .i64 0) (.int .i64 0) (.slice none 0 0) (.slice none 0 0) (.slice none 0 0) := ⟨_, rfl⟩
  have h6 := put11_at Hn.out (.int .i64 c) (.int .i64 0) (.int .i64 0) (.int .i64 0) (.int .i64 0) (.int .i64 0) (.int .i64 0) (.int .i64 0) (.slice none 0 0) (.slice none 0 0) (.slice none 0 0)
  rw [← hW6] at h6
  have hb6 : Below w.heap.size w W6 := by rw [hW6]; exact put11_below Hb.out (Nat.le_refl _) _ _ _ _ _ _ _ _ _ _ _
  unfold put11 at hW6
  have HW := Lib.hid hW6
  clear hW6
  obtain ⟨⟨t0, t1, t2, t3, t4, t5, t6, t7, t8, t9, t10⟩, -⟩ := eleven_at h6
  go_wp2_with fail
  rw [← HW.out]
  refine bodyPost_ret (v := .agg #[.int .i64 c, .int .i64 0, .int .i64 0, .int .i64 0, .int .i64 0, .int .i64 0, .int .i64 0, .int .i64 0, .slice none 0 0, .slice none 0 0, .slice none 0 0]) (by simp [results, Tryz.results57, go_sem, t0, t1, t2, t3, t4, t5, t6, t7, t8, t9, t10]) rfl ⟨rfl, hb6⟩
theorem ltrs_len (labs : List Nat) (ls : List Let) : (ls.map (fun x : Let => x.ltr labs)).length = ls.length := by simp
set_option maxRecDepth 100000 in
set_option maxHeartbeats 2000000 in
theorem cDueNone {w : World} {c : Cfg} {X : Adr} {own : Own} {N : Nat} {s : Wld} (h : WAt w c X own N s) (id : Int) (hi : id < 0 ∨ (s.ls.length : Int) ≤ id) :
    Calls Tryz.prog 56 #[.pointer (some ⟨X.W, 0, none⟩), .int .i64 id] w fun e w' => e = .returned (.int .i64 6) ∧ w = w' := by
  obtain ⟨-, -, -, -, -, -, -, x7, x8⟩ := h.head
  have CT := Lib.hid (cToNone h.off id (by simpa using hi))
  clear h hi
  go_enter Tryz.func56, Tryz.ntmps56
  go_wp2_with (go_at_call 66; refine CT.out.mono ?_; rintro e w' ⟨rfl, rfl⟩)
  go_ret
  exact ⟨rfl, rfl⟩
set_option maxRecDepth 100000 in
set_option maxHeartbeats 4000000 in
theorem cDue {w : World} {c : Cfg} {X : Adr} {own : Own} {N : Nat} {s : Wld} (h : WAt w c X own N s) (hN : N ≤ 1000000) (i : Nat) (hi : i < s.ls.length) :
    Calls Tryz.prog 56 #[.pointer (some ⟨X.W, 0, none⟩), .int .i64 i] w fun e w' => e = .returned (.int .i64 (s.due i)) ∧ Below w.heap.size w w' := by
  obtain ⟨-, -, -, -, -, -, -, x7, x8⟩ := h.head
  have hi' : i < (s.ls.map (fun x : Let => x.ltr c.labs)).length := by simpa using hi
  have CT := Lib.hid (cTo h.off i hi')
  have CO := Lib.hid (cOld h.off i hi')
  simp only at CT CO
  have hlen := h.off.len
  simp only [ltrs_len] at hlen
  rw [ltr_t c.labs s.ls i hi] at CT CO
  rw [ltr_f c.labs s.ls i hi] at CO
  obtain ⟨n, hm, -⟩ := h.lost.ex
  have hlk : ∀ x : World, x.heap[X.L]? = w.heap[X.L]? → (Instr.lookup 93 (.map (some X.L)) (.int .i64 i) false).run Tryz.prog x = .ok (.bool (s.lost i)) x := fun x hx => (hm.kept hx).look (wf64_iff.2 (by omega))
  have hl0 := hlk w rfl
  have hdue : Hid (s.due i = if s.lost i = true ∨ s.old i = true then 10 else 0) := by
    show _ = _
    unfold Wld.due
    rw [if_neg (by omega)]
    simp
  have ho : Hid (s.old i = decide ((i : Int) < s.op ((s.ls.map (·.f)).getD i 0 : Nat) ((s.ls.map (·.t)).getD i 0 : Nat))) := rfl
  rw [← ho.out] at CO
  generalize s.old i = od at *
  generalize (s.ls.map (·.t)).getD i 0 = tt at *
  have htz : decide ((tt : Int) < 0) = false := by simp
  clear h hm hlk ho
  cases hls : s.lost i with
  | true =>
    rw [hls] at hl0 hdue
    rw [hdue.out]
    simp only [true_or, if_true]
    go_enter Tryz.func56, Tryz.ntmps56
    go_wp2_with (go_at_call 66; refine CT.out.mono ?_; rintro e w' ⟨rfl, rfl⟩)
    go_ret
    exact ⟨rfl, Below.refl _ _⟩
  | false =>
    rw [hls] at hl0 hdue
    rw [hdue.out]
    go_enter Tryz.func56, Tryz.ntmps56
    go_wp2_with (first | (go_at_call 66; refine CT.out.mono ?_; rintro e w' ⟨rfl, rfl⟩) | fail)
    refine CO.out.mono ?_
    rintro e w' ⟨rfl, hb⟩
    cases od with
    | true =>
      go_wp2_with fail
      go_ret
      exact ⟨rfl, hb⟩
    | false =>
      go_wp2_with fail
      go_ret
      exact ⟨rfl, hb⟩
end Go.Proofs.YtjdedflfdlhkdaaGreatDoor

namespace Go.Proofs.YtjdedflfdlhkdaaGreatDoor
open Go.ChangeShapes Go.WideShapes Go.ChangeAt Go.RowKit
set_option linter.unusedVariables false
set_option linter.unusedSimpArgs false

theorem cDoW {w : World} {c : Cfg} {X : Adr} {own : Own} {N : Nat} {s : Wld} (h : WAt w c X own N s) (i k : Nat) (hi : i < c.n) (hk : k < c.items) (o : Ord) (ho : 1 ≤ o.kind ∧ o.kind ≤ 7) (hm : (s.sh i k).made ≤ 1000) :
    Calls Tryz.prog 62 #[.pointer (some ⟨X.S i, k * 4, none⟩), o.val] w fun e w' => e = .returned ((s.sh i k).out o).val ∧ ∃ own', WAt w' c X own' N { s with sh := upd2 s.sh i k ((s.sh i k).next o) } ∧ Went own own' w w' :=
  (cDo ((h.sh i hi).shf k hk) o ho hm fun b hb => .inr (.inr hb)).mono fun e w' ⟨he, hq⟩ => ⟨he, h.order i k hi hk hq⟩
theorem getD_take {l : List Int} {j k : Nat} (h : j < k) : (l.take k).getD j 0 = l.getD j 0 := by
  rw [List.getD_eq_getElem?_getD, List.getElem?_take, if_pos h, ← List.getD_eq_getElem?_getD]
theorem gains_sh (s : Wld) (i : Nat) (l : List Int) (k : Nat) (hk : k ≤ l.length) : (s.gains i (l.take k)).sh i k = s.sh i k ∧ (s.gains i (l.take k)).gain i k = s.gain i k := by
  have e : (l.take k).length = k := by simp; omega
  unfold Wld.gains
  simp only [e]
  exact ⟨if_neg (by omega), if_neg (by omega)⟩
theorem gains_zero (s : Wld) (i : Nat) (l : List Int) : s.gains i (l.take 0) = s := by
  have h1 : (fun (x k : Nat) => if x = i ∧ k < (l.take 0).length ∧ s.gain i k < (l.take 0).getD k 0 then (s.sh i k).next ⟨1, (l.take 0).getD k 0 - s.gain i k, 0, 0⟩ else s.sh x k) = s.sh := by
    funext x k; exact if_neg (by simp)
  have h2 : (fun (x k : Nat) => if x = i ∧ k < (l.take 0).length ∧ s.gain i k < (l.take 0).getD k 0 then (l.take 0).getD k 0 else s.gain x k) = s.gain := by
    funext x k; exact if_neg (by simp)
  unfold Wld.gains
  rw [h1, h2]
theorem gains_less (s : Wld) (i : Nat) (l : List Int) (k : Nat) (hk : k < l.length) (h : ¬ s.gain i k < l[k]) : s.gains i (l.take (k + 1)) = s.gains i (l.take k) := by
  have e1 : (l.take (k + 1)).length = k + 1 := by simp; omega
  have e : (l.take k).length = k := by simp; omega
  have eg : l.getD k 0 = l[k] := by simp [List.getD_eq_getElem?_getD, hk]
  have key : ∀ x j, (x = i ∧ j < (l.take (k + 1)).length ∧ s.gain i j < (l.take (k + 1)).getD j 0) ↔ (x = i ∧ j < (l.take k).length ∧ s.gain i j < (l.take k).getD j 0) := by
    intro x j
    rw [e1, e]
    by_cases hj : j < k
    · rw [getD_take (show j < k + 1 by omega), getD_take hj]
      constructor
      · rintro ⟨a, b, d⟩; exact ⟨a, hj, d⟩
      · rintro ⟨a, b, d⟩; exact ⟨a, by omega, d⟩
    · constructor
      · rintro ⟨a, b, d⟩
        obtain rfl : j = k := by omega
        rw [getD_take (show j < j + 1 by omega), eg] at d
        exact absurd d h
      · rintro ⟨a, b, d⟩; omega
  have kv : ∀ x j, (x = i ∧ j < (l.take k).length ∧ s.gain i j < (l.take k).getD j 0) → (l.take (k + 1)).getD j 0 = (l.take k).getD j 0 := by
    rintro x j ⟨_, hj, _⟩
    rw [e] at hj
    rw [getD_take (show j < k + 1 by omega), getD_take hj]
  unfold Wld.gains
  congr 1
  · funext x j
    by_cases hh : x = i ∧ j < (l.take k).length ∧ s.gain i j < (l.take k).getD j 0
    · rw [if_pos ((key x j).2 hh), if_pos hh, kv x j hh]
    · rw [if_neg (fun q => hh ((key x j).1 q)), if_neg hh]
  · funext x j
    by_cases hh : x = i ∧ j < (l.take k).length ∧ s.gain i j < (l.take k).getD j 0
    · rw [if_pos ((key x j).2 hh), if_pos hh, kv x j hh]
    · rw [if_neg (fun q => hh ((key x j).1 q)), if_neg hh]
theorem gains_more (s : Wld) (i : Nat) (l : List Int) (k : Nat) (hk : k < l.length) (h : s.gain i k < l[k]) :
    s.gains i (l.take (k + 1)) = { s.gains i (l.take k) with sh := upd2 (s.gains i (l.take k)).sh i k (((s.gains i (l.take k)).sh i k).next ⟨1, l[k] - s.gain i k, 0, 0⟩), gain := upd2 (s.gains i (l.take k)).gain i k l[k] } := by
  have e1 : (l.take (k + 1)).length = k + 1 := by simp; omega
  have e : (l.take k).length = k := by simp; omega
  have eg : l.getD k 0 = l[k] := by simp [List.getD_eq_getElem?_getD, hk]
  rw [(gains_sh s i l k (by omega)).1]
  unfold Wld.gains
  congr 1
  · funext x j
    by_cases hx : x = i ∧ j = k
    · obtain ⟨rfl, rfl⟩ := hx
      rw [upd2_same, if_pos ⟨rfl, by omega, by rw [getD_take (show j < j + 1 by omega), eg]; exact h⟩, getD_take (show j < j + 1 by omega), eg]
    · rw [upd2_ne _ _ hx]
      dsimp only
      by_cases hj : j < k
      · rw [getD_take (show j < k + 1 by omega), getD_take hj, e1, e]
        by_cases q : x = i ∧ s.gain i j < l.getD j 0
        · rw [if_pos ⟨q.1, by omega, q.2⟩, if_pos ⟨q.1, hj, q.2⟩]
        · rw [if_neg (fun z => q ⟨z.1, z.2.2⟩), if_neg (fun z => q ⟨z.1, z.2.2⟩)]
      · rw [if_neg (by rw [e1]; rintro ⟨a, b, d⟩; exact hx ⟨a, by omega⟩), if_neg (by rw [e]; omega)]
  · funext x j
    by_cases hx : x = i ∧ j = k
    · obtain ⟨rfl, rfl⟩ := hx
      rw [upd2_same, if_pos ⟨rfl, by omega, by rw [getD_take (show j < j + 1 by omega), eg]; exact h⟩, getD_take (show j < j + 1 by omega), eg]
    · rw [upd2_ne _ _ hx]
      dsimp only
      by_cases hj : j < k
      · rw [getD_take (show j < k + 1 by omega), getD_take hj, e1, e]
        by_cases q : x = i ∧ s.gain i j < l.getD j 0
        · rw [if_pos ⟨q.1, by omega, q.2⟩, if_pos ⟨q.1, hj, q.2⟩]
        · rw [if_neg (fun z => q ⟨z.1, z.2.2⟩), if_neg (fun z => q ⟨z.1, z.2.2⟩)]
      · rw [if_neg (by rw [e1]; rintro ⟨a, b, d⟩; exact hx ⟨a, by omega⟩), if_neg (by rw [e]; omega)]
set_option maxRecDepth 100000 in
set_option maxHeartbeats 4000000 in
theorem cGains {w : World} {c : Cfg} {X : Adr} {own : Own} {N : Nat} {s : Wld} (h : WAt w c X own N s) (i : Nat) (hi : i < c.n) (v : Value) (l : List Int) (hv : Has w 1 v l.length (ints l)) (hf : InF (Fr own w) v) (hl : ∀ x ∈ l, 0 ≤ x ∧ x ≤ 1048576) (hlen : l.length = c.items) (hit : c.items ≤ 3)
    (hg : ∀ k, k < c.items → 0 ≤ s.gain i k ∧ s.gain i k ≤ 1048576) (hm : ∀ k, k < c.items → (s.sh i k).made ≤ 1000) :
    Calls Tryz.prog 71 #[.pointer (some ⟨X.B i, 0, none⟩), v] w fun e w' => e = .returned (.tuple #[]) ∧ ∃ own', WAt w' c X own' N (s.gains i l) ∧ Went own own' w w' := by
  have H := Lib.hid h
  have HV := Lib.hid hv
  have HF := Lib.hid hf
  have HL := Lib.hid hl
  have HG := Lib.hid hg
  have HM := Lib.hid hm
  obtain ⟨_, va, cv, rfl, hv1, hv2, _⟩ := hv
  unfold maxLen at hv2
  have hll : l.length ≤ 3 := by omega
  have HLen := Lib.hid hlen
  have hz := Lib.hid (gains_zero s i l)
  clear h hf hl hg hm hlen hit
  go_enter Tryz.func71, Tryz.ntmps71
  go_wp2_with fail
  go_loopw [4, 5, 8] (fun _ _ j wr => ∃ (k : Nat) (own' : Own), k ≤ l.length ∧ j = .int .i64 k ∧ Hid (WAt wr c X own' N (s.gains i (l.take k))) ∧ Hid (Went own own' w wr)) (fun _ _ j _ => l.length - (intOf j).toNat)
  case atStart => exact ⟨0, own, by omega, rfl, by rw [hz.out]; exact H, Went.of_below (Below.refl _ _) H.out.lt⟩
  case round =>
    obtain ⟨k, own1, hk, rfl, HW, HU⟩ := hrel
    by_cases hlt : k < l.length
    · have hltz : (k : Int) < (l.length : Int) := by omega
      have hki : k < c.items := by have := HLen.out; omega
      obtain ⟨⟨hl0, _⟩, _, _, he, _, _, hcc⟩ := HV.out.upd HF.out HU.out
      simp only [Value.slice.injEq] at he
      obtain ⟨rfl, -, rfl⟩ := he
      obtain ⟨b, o, rfl, hcell⟩ := hcc (by simp; omega)
      have z0 := hcell k _ (ints_get l k hlt)
      have hy := HL.out _ (List.getElem_mem hlt)
      obtain ⟨b0, b1, b2, b3⟩ := HW.out.branch i hi
      obtain ⟨g0, gf⟩ := HW.out.gainCell i k hi hki
      have hgs := gains_sh s i l k (by omega)
      rw [hgs.2] at g0
      have hgb := HG.out k hki
      have hlz : (k : Int) < (c.items : Int) := by omega
      have hmd := HM.out k hki
      have hle := Lib.hid (gains_less s i l k hlt)
      have hmo := Lib.hid (gains_more s i l k hlt)
      have hS := World.block_lt_of_cell? wr _ b0
      generalize hyy : l[k] = y at *
      clear hl0 hcc hcell hyy
      by_cases hgt : s.gain i k < y
      · have hd : decide (s.gain i k < y) = true := decide_eq_true hgt
        have hmo' := Lib.hid (hmo.out hgt)
        have hwr : IntKind.i64.wrap (y - s.gain i k) = y - s.gain i k := IntWalk.i64_in _ (by omega)
        generalize hgk : s.gain i k = gk at *
        have CD : Hid (∀ Y, Below wr.heap.size wr Y → _) := fun Y hY => cDoW (HW.out.on hY) i k hi hki ⟨1, y - gk, 0, 0⟩ (by simp) (by rw [hgs.1]; exact hmd)
        simp only [Ord.val] at CD
        clear hgk hle hmo hgs
        go_upto_region 4 with (fail)
        refine wp_still_tail 16 (by kernel_rfl) (by kernel_rfl) ?_
        simp only [List.take_succ_cons, List.take_zero, List.drop_succ_cons, List.drop_zero]
        repeat still_step
        refine wpStill_nil ?_
        go_wp2_with fail
        refine (CD.out _ (Below.drew (Below.refl _ _))).mono ?_
        rintro e w5 ⟨rfl, own5, hW5, hU5⟩
        have hU := HU.out.trans ((Went.of_below (Below.drew (Below.refl _ _)) HW.out.lt).trans hU5)
        obtain ⟨d0, d1, d2, d3⟩ := hW5.branch i hi
        obtain ⟨q0, qf⟩ := hW5.gainCell i k hi hki
        have hfin := hW5.gainSet i k hi hki y
        have Hfin : Hid (WAt (w5.setCell ⟨X.G i, k, none⟩ (.int .i64 y)) c X own5 N (s.gains i (l.take (k + 1)))) := by
          have e := hmo'.out
          show WAt _ _ _ _ _ _
          rw [e]; exact hfin.1
        have HU5 := Lib.hid (hU.trans hfin.2)
        clear hfin hW5 hU5 hU CD b0 b1 b2 b3 g0 gf z0 HW HU
        go_wp2_with fail
        go_roundw
        case rel => exact ⟨k + 1, own5, by omega, by go_num, Hfin, HU5⟩
        case measure => first | (simp [intOf]; done) | (simp [intOf]; omega)
      · have hd : decide (s.gain i k < y) = false := decide_eq_false hgt
        have hle' := Lib.hid (hle.out hgt)
        clear hle hmo hgs
        go_wp2_with fail
        go_roundw
        case rel => exact ⟨k + 1, own1, by omega, by go_num, by rw [hle'.out]; exact HW, HU⟩
        case measure => first | (simp [intOf]; done) | (simp [intOf]; omega)
    · obtain rfl : k = l.length := by omega
      rw [List.take_of_length_le (Nat.le_refl _)] at HW
      go_wp2_with fail
      go_end0
      exact ⟨rfl, own1, HW.out, HU.out⟩
end Go.Proofs.YtjdedflfdlhkdaaGreatDoor

namespace Go.Proofs.YtjdedflfdlhkdaaGreatDoor
set_option linter.unusedVariables false
set_option linter.unusedSimpArgs false

/-- Entries of a branch behind K steps. -/
structure EntOk (K : Nat) (l : List Ent) : Prop where
  may : EightL l
  v : ∀ e ∈ l, e.v ≤ 255
  t : ∀ e ∈ l, e.t ≤ K
structure Let.Ok (c : Cfg) (K : Nat) (x : Let) : Prop where
  f : x.f ≤ c.n
  t : x.t ≤ c.n
  m : match x.m with
    | .nums l => ((x.t = c.n ∧ x.f < c.n) ∨ (x.f = c.n ∧ x.t < c.n)) ∧ l.length = c.items ∧ ∀ v ∈ l, 0 ≤ v ∧ v ≤ 1048576
    | .rum st => x.f < c.n ∧ x.t < c.n ∧ ∀ j, j < c.labs.length → EntOk K (st j)
structure WOk (c : Cfg) (K : Nat) (s : Wld) : Prop where
  sh : ∀ i k, i < c.n → k < c.items → (s.sh i k).Ok
  made : ∀ i k, i < c.n → k < c.items → (s.sh i k).made ≤ K
  asks : ∀ i k, i < c.n → k < c.items → 0 ≤ s.asks i k ∧ s.asks i k ≤ 1048576
  gain : ∀ i k, i < c.n → k < c.items → 0 ≤ s.gain i k ∧ s.gain i k ≤ 1048576
  st : ∀ i j, i < c.n → j < c.labs.length → EntOk K (s.st i j)
  bk : ∀ k, k < c.items → BkOk c.n (s.bk k)
  round : ∀ k, k < c.items → (s.bk k).round ≤ K
  ls : ∀ x ∈ s.ls, x.Ok c K
theorem EntOk.mono {K M : Nat} {l : List Ent} (h : EntOk K l) (hM : K ≤ M) : EntOk M l := ⟨h.may, h.v, fun e he => by have := h.t e he; omega⟩
theorem Let.Ok.mono {c : Cfg} {K M : Nat} {x : Let} (h : x.Ok c K) (hM : K ≤ M) : x.Ok c M := by
  refine ⟨h.f, h.t, ?_⟩
  have := h.m
  cases hx : x.m with
  | nums l => rw [hx] at this; exact this
  | rum st => rw [hx] at this; exact ⟨this.1, this.2.1, fun j hj => (this.2.2 j hj).mono hM⟩
theorem WOk.mono {c : Cfg} {K M : Nat} {s : Wld} (h : WOk c K s) (hM : K ≤ M) : WOk c M s :=
  ⟨h.sh, fun i k hi hk => by have := h.made i k hi hk; omega, h.asks, h.gain, fun i j hi hj => (h.st i j hi hj).mono hM, h.bk, fun k hk => by have := h.round k hk; omega, fun x hx => (h.ls x hx).mono hM⟩
theorem EntOk.merge {K : Nat} {a b : List Ent} (ha : EntOk K a) (hb : EntOk K b) : EntOk K (mergeL a b) :=
  ⟨ha.may.merge hb.may, fun e he => (mergeL_mem he).elim (ha.v e) (hb.v e), fun e he => (mergeL_mem he).elim (ha.t e) (hb.t e)⟩
theorem EntOk.nil (K : Nat) : EntOk K [] := ⟨EightL.nil, fun e he => by simp at he, fun e he => by simp at he⟩
theorem made_next (s : Shf) (o : Ord) : (s.next o).made ≤ s.made + 1 ∧ s.made ≤ (s.next o).made := by
  unfold Shf.next Shf.order
  repeat' split
  all_goals (try simp only)
  all_goals (first | omega | (simp only [Shf.ticked]; omega) | (split <;> simp only <;> omega))
theorem made_tick (s : Shf) (o : Ord) (h : o.kind ≠ 3) : (s.next o).made = s.made := by
  unfold Shf.next Shf.order
  repeat' split
  all_goals (try simp only)
  all_goals (first | rfl | omega | (simp only [Shf.ticked]) | (split <;> rfl))
theorem wld0_ok (c : Cfg) (hc : c.Ok) : WOk c 0 (wld0 c) := by
  refine ⟨fun i k _ _ => shf0_ok, fun i k _ _ => Int.le_refl _, fun i k _ _ => by simp [wld0], fun i k _ _ => by simp [wld0], fun i j _ _ => EntOk.nil 0, fun k hk => ?_, fun k hk => by simp [wld0, Bk.stock, Bk.new], fun x hx => by simp [wld0] at hx⟩
  have hm := hc.minted (c.minted.getD k 0) (by rw [List.getD_eq_getElem?_getD, List.getElem?_eq_getElem hk]; exact List.getElem_mem hk)
  have hcp := hc.cap
  have ht := hc.ticks
  exact (BkOk.new c.n c.cap c.ticks (by omega) (by omega)).stock _ hm.1 (by simp only [Bk.new]; omega)
theorem gains_ok {c : Cfg} {K : Nat} {s : Wld} (h : WOk c K s) (i : Nat) (l : List Int) (hl : ∀ v ∈ l, 0 ≤ v ∧ v ≤ 1048576) : WOk c K (s.gains i l) := by
  refine ⟨fun x k hx hk => ?_, fun x k hx hk => ?_, h.asks, fun x k hx hk => ?_, h.st, h.bk, h.round, h.ls⟩
  · simp only [Wld.gains]; split
    · rename_i hh; rw [← hh.1]; exact next_ok (h.sh x k hx hk) _
    · exact h.sh x k hx hk
  · simp only [Wld.gains]; split
    · rename_i hh; rw [← hh.1, made_tick _ _ (by simp)]; exact h.made x k hx hk
    · exact h.made x k hx hk
  · simp only [Wld.gains]; split
    · rename_i hh
      have : l.getD k 0 = l[k]'hh.2.1 := by simp [List.getD_eq_getElem?_getD, hh.2.1]
      rw [this]
      exact hl _ (List.getElem_mem _)
    · exact h.gain x k hx hk
theorem want_round (b : Bk) (who : Nat) (c : Int) : (b.want who c).round = b.round := rfl
theorem wants_ok {c : Cfg} {K : Nat} {s : Wld} (h : WOk c K s) (who : Nat) (hw : who < c.n) (l : List Int) (hl : ∀ v ∈ l, 0 ≤ v ∧ v ≤ 1048576) : WOk c K (s.wants who l) := by
  refine ⟨h.sh, h.made, h.asks, h.gain, h.st, fun k hk => ?_, fun k hk => ?_, h.ls⟩
  · simp only [Wld.wants]; split
    · rename_i hh
      have : l.getD k 0 = l[k]'hh := by simp [List.getD_eq_getElem?_getD, hh]
      rw [this]
      exact (h.bk k hk).want' who _ hw (hl _ (List.getElem_mem _)).2
    · exact h.bk k hk
  · simp only [Wld.wants]; split
    · exact h.round k hk
    · exact h.round k hk
theorem learns_ok {c : Cfg} {K : Nat} {s : Wld} (h : WOk c K s) (i : Nat) (L : Nat → List Ent) (hL : ∀ j, j < c.labs.length → EntOk K (L j)) : WOk c K (s.learns i L) := by
  refine ⟨h.sh, h.made, h.asks, h.gain, fun x j hx hj => ?_, h.bk, h.round, h.ls⟩
  simp only [Wld.learns]
  by_cases e : x = i
  · subst e; rw [updF_same]; exact (h.st x j hx hj).merge (hL j hj)
  · rw [updF_ne _ _ e]; exact h.st x j hx hj
theorem heard_ok {labs : List Nat} {K f t : Nat} {st : Nat → List Ent} (h : ∀ j, j < labs.length → EntOk K (st j)) : ∀ j, j < labs.length → EntOk K (heardL labs f t st j) := fun j hj => by
  unfold heardL; split
  · exact h j hj
  · exact EntOk.nil K
theorem comes_ok {c : Cfg} {K : Nat} {s : Wld} (h : WOk c K s) (x : Let) (hx : x.Ok c K) : WOk c K (s.comes c x) := by
  have hm := hx.m
  unfold Wld.comes
  cases hxm : x.m with
  | nums l =>
    rw [hxm] at hm
    simp only at hm ⊢
    split
    · next ht =>
      rcases hm.1 with ⟨_, hf⟩ | ⟨_, hf⟩
      · exact wants_ok h _ hf l hm.2.2
      · omega
    · exact gains_ok h _ l hm.2.2
  | rum st =>
    rw [hxm] at hm
    simp only at hm ⊢
    exact learns_ok h _ _ (heard_ok hm.2.2)
theorem opens_ok {c : Cfg} {K : Nat} {s : Wld} (h : WOk c K s) (i : Nat) : WOk c K (s.opens i) := ⟨h.sh, h.made, h.asks, h.gain, h.st, h.bk, h.round, h.ls⟩
theorem round_rounded (b : Bk) : b.rounded.round = b.round + 1 := by
  have : ∀ k (x : Bk), (x.payTo k).round = x.round := by
    intro k
    induction k with
    | zero => intro x; rfl
    | succ k ih => intro x; rw [Bk.payTo_succ]; exact ih x
  unfold Bk.rounded
  rw [this]
  rfl
theorem granted_bd {n : Nat} {b : Bk} (h : BkOk n b) (i : Nat) : 0 ≤ b.granted.getD i 0 ∧ b.granted.getD i 0 ≤ 1048576 := by have := h.want i; omega
theorem tickMsgs_ok {c : Cfg} {K : Nat} {s : Wld} (h : WOk c K s) : ∀ x ∈ tickMsgs c s, x.Ok c K := by
  intro x hx
  unfold tickMsgs at hx
  rcases List.mem_append.1 hx with hx | hx
  · obtain ⟨i, hi, hx⟩ := List.mem_flatMap.1 hx
    rw [List.mem_range] at hi
    unfold rowMsg at hx
    rcases List.mem_cons.1 hx with rfl | hx
    · refine ⟨by simp [askMsg]; omega, by simp [askMsg], ?_⟩
      show ((_ ∧ _) ∨ _) ∧ _
      refine ⟨Or.inl ⟨by rfl, hi⟩, by simp, fun v hv => ?_⟩
      obtain ⟨k, hk, rfl⟩ := List.mem_map.1 hv
      exact h.asks i k hi (List.mem_range.1 hk)
    · obtain ⟨j, hj, rfl⟩ := List.mem_map.1 hx
      have hj' := List.mem_range.1 (List.mem_filter.1 hj).1
      refine ⟨by simp [rumMsg]; omega, by simp [rumMsg]; omega, ?_⟩
      simp only [rumMsg]
      exact ⟨hi, hj', fun k hk => h.st i k hi hk⟩
  · obtain ⟨i, hi, rfl⟩ := List.mem_map.1 hx
    rw [List.mem_range] at hi
    refine ⟨by simp [giveMsg], by simp [giveMsg]; omega, ?_⟩
    show (_ ∨ (_ ∧ _)) ∧ _
    refine ⟨Or.inr ⟨by rfl, hi⟩, by simp, fun v hv => ?_⟩
    obtain ⟨k, hk, rfl⟩ := List.mem_map.1 hv
    exact granted_bd (h.bk k (List.mem_range.1 hk)).rounded i
theorem ticked_wok {c : Cfg} {K : Nat} {s : Wld} (h : WOk c K s) : WOk c (K + 1) (s.ticked c) := by
  refine ⟨fun i k hi hk => ticked_ok (h.sh i k hi hk), fun i k hi hk => ?_, h.asks, h.gain, fun i j hi hj => (h.st i j hi hj).mono (by omega), fun k hk => (h.bk k hk).rounded, fun k hk => ?_, fun x hx => ?_⟩
  · have := h.made i k hi hk
    simp only [Wld.ticked, Shf.ticked]; omega
  · have := h.round k hk
    simp only [Wld.ticked]; rw [round_rounded]; omega
  · simp only [Wld.ticked] at hx
    rcases List.mem_append.1 hx with hx | hx
    · exact (h.ls x hx).mono (by omega)
    · exact (tickMsgs_ok h x hx).mono (by omega)
theorem deliver_ok {c : Cfg} {K : Nat} {s : Wld} (h : WOk c K s) (id : Int) : WOk c K (s.deliver c id).2 := by
  unfold Wld.deliver
  split
  · exact h
  · split
    · exact h
    · split
      · exact h
      · rename_i x hx
        exact comes_ok (opens_ok h _) x (h.ls x (List.mem_of_getElem? hx))
theorem lose_ok {c : Cfg} {K : Nat} {s : Wld} (h : WOk c K s) (id : Int) : WOk c K (s.lose id).2 := by
  unfold Wld.lose
  split
  · exact ⟨h.sh, h.made, h.asks, h.gain, h.st, h.bk, h.round, h.ls⟩
  · exact h
theorem put_ok {K : Nat} {l : List Ent} {k v : Int} {i : Nat} (h : EntOk K l) (hk : 0 ≤ k ∧ k < 8) (hv : 0 ≤ v ∧ v ≤ 255) (hi : i < 4) (hK : K + 1 ≤ 1048576) : EntOk (K + 1) [⟨k, v, maxT l + 1, i, false⟩] := by
  have hm0 := maxT_nonneg l
  have hm1 := maxT_le (l := l) (n := K) (by omega) h.t
  refine ⟨EightL.one ⟨by simp only; omega, by simp only; omega, by simp only; omega, by simp only; omega, by simp⟩ hk, fun e he => ?_, fun e he => ?_⟩
  · simp only [List.mem_singleton] at he; subst he; exact hv.2
  · simp only [List.mem_singleton] at he; subst he; simp only; omega
theorem step_ok {c : Cfg} {K : Nat} {s : Wld} (hc : c.Ok) (h : WOk c K s) (p : Stp) (hK : K + 1 ≤ 1048576) : WOk c (K + 1) (s.step c p).2 := by
  have hM := h.mono (Nat.le_succ K)
  unfold Wld.step
  split
  · exact ticked_wok h
  split
  · exact deliver_ok hM _
  split
  · exact lose_ok hM _
  split
  · exact hM
  split
  · exact hM
  rename_i h9 h10 h11 hk hw
  have hi : p.who.toNat < c.n := by omega
  generalize p.who.toNat = i at *
  simp only
  unfold Wld.client
  split
  · unfold Wld.entry
    split
    · exact hM
    split
    · exact hM
    rename_i hr _
    have hl : p.label.toNat < c.labs.length := by omega
    split
    · next h7 =>
      refine ⟨hM.sh, hM.made, hM.asks, hM.gain, fun x j hx hj => ?_, hM.bk, hM.round, hM.ls⟩
      simp only
      by_cases e : x = i ∧ j = p.label.toNat
      · obtain ⟨rfl, rfl⟩ := e
        rw [upd2_same]
        have hn := hc.n
        exact (hM.st x _ hx hj).merge (put_ok (h.st x _ hx hj) (by omega) (by omega) (by omega) hK)
      · rw [upd2_ne _ _ e]; exact hM.st x j hx hj
    split
    · exact hM
    · exact hM
  split
  · exact hM
  rename_i hit
  have hit' : p.item.toNat < c.items := by omega
  split
  · split
    · exact hM
    split
    · exact hM
    rename_i hcn hov
    refine ⟨hM.sh, hM.made, fun x k hx hk => ?_, hM.gain, hM.st, hM.bk, hM.round, hM.ls⟩
    simp only
    by_cases e : x = i ∧ k = p.item.toNat
    · obtain ⟨rfl, rfl⟩ := e
      rw [upd2_same]
      have := h.asks x _ hx hk
      omega
    · rw [upd2_ne _ _ e]; exact hM.asks x k hx hk
  · refine ⟨fun x k hx hk => ?_, fun x k hx hk => ?_, hM.asks, hM.gain, hM.st, hM.bk, hM.round, hM.ls⟩
    · simp only
      by_cases e : x = i ∧ k = p.item.toNat
      · obtain ⟨rfl, rfl⟩ := e
        rw [upd2_same]; exact next_ok (h.sh x _ hx hk) _
      · rw [upd2_ne _ _ e]; exact hM.sh x k hx hk
    · simp only
      by_cases e : x = i ∧ k = p.item.toNat
      · obtain ⟨rfl, rfl⟩ := e
        rw [upd2_same]
        have h1 := (made_next (s.sh x p.item.toNat) ⟨p.kind, p.count, p.life, p.id⟩).1
        have h2 := h.made x _ hx hk
        omega
      · rw [upd2_ne _ _ e]; exact hM.made x k hx hk
end Go.Proofs.YtjdedflfdlhkdaaGreatDoor
