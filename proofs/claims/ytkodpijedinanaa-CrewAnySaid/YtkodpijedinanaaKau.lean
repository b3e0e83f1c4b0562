/- Texts that the claim imports, laid together: MxE MxL MxF. No statement of their own. -/
import Derived.Test.YtkodpijedinanaaKap
import Derived.Test.YtkodpijedinanaaKaq
import Derived.Test.YtkodpijedinanaaKat
namespace Go.Proofs.Ytkodpijedinanaa.Sim
open Go Go.Conc
set_option linter.unusedVariables false
set_option linter.unusedSimpArgs false

noncomputable def k2C : Code := hd (tl (tl (tl (tl (tl cCA)))))
noncomputable def lp2C : Code := ((match tl k2C with | .block _ (.loop c) => c | c => c))
noncomputable def f12C : Code := hd (hd lp2C)
noncomputable def f14C : Code := ((match hd (tl lp2C) with | .block _ c => c | c => c))
noncomputable def f13C : Code := tl (tl lp2C)
theorem lp2C_eq : lp2C = .seq (.seq f12C (.cond (.tmp 46) .skip (.exit 2))) (.seq (.block 3 f14C) f13C) := by kernel_rfl
theorem norng0 : NoRng (0, 0) := fun i h => by simp at h
theorem SRow.cell {lo : Nat} {W : World} {g n c : Nat} {V : Nat → Value} (h : SRow lo W (.slice (some ⟨g, 0, none⟩) n c) n V) {j : Nat} (hj : j < n) : W.cell? ⟨g, j, none⟩ = some (V j) := by
  rcases h.row with ⟨h, _⟩ | ⟨g', cap, cur, e, h1, h2, h3, h4, h5, h6, h7⟩
  · cases h
  · cases e
    simp only [World.cell?, h2]
    simpa using h6 j hj
theorem SRow.of_lit {lo b : Nat} {W : World} {u : Value} (hb : lo ≤ b) (h : W.heap[b]? = some (.cells #[u] 35)) (hu : IsSl u) (V : Nat → Value) (hV : V 0 = u) : SRow lo W (.slice (some ⟨b, 0, none⟩) 1 1) 1 V :=
  ⟨.inr ⟨b, 1, #[u], rfl, hb, h, Nat.le_refl _, by simp only [maxLen]; omega, rfl, fun j hj => by
    obtain rfl : j = 0 := by omega
    rw [hV]; rfl, fun x hx => by simp at hx; subst hx; exact hu⟩⟩
theorem SRow.at {lo : Nat} {W : World} {g n c : Nat} {V : Nat → Value} (h : SRow lo W (.slice (some ⟨g, 0, none⟩) n c) n V) : lo ≤ g ∧ g < W.heap.size ∧ ∃ cs e z, W.heap[g]? = some (.cells cs e z) ∧ NoRng z := by
  rcases h.row with ⟨h, _⟩ | ⟨g', cap, cur, e, h1, h2, h3⟩
  · cases h
  · cases e
    exact ⟨h1, heap_lt h2, _, _, _, h2, norng0⟩
section
variable {lo : Nat} {Gr : Blk} {Ju : Blk → Goroutine → World → Prop} {RB : List Frame} {Own : Blk}
set_option maxRecDepth 100000 in
set_option maxHeartbeats 16000000 in
/-- The second loop. -/
theorem other_loop (hJ : Jud Try.prog true (shR lo Gr) Ju) {W1 : World} {v : Value} {V : Nat → Value} {n p : Nat} {tn : Int} {ls : Nat → List Ent} (hn12 : n ≤ 12) (hp : 0 < n → pick tn n = (p : Int) ∧ p < n) (hvn : SV v n) (hgl1 : Try.prog.globals.size ≤ W1.heap.size) (hlo1 : lo ≤ W1.heap.size) {kx : List Item}
    (hx : ∀ O A u U, A.tmps.size = 101 → A.defers = [] → SV u n → (∀ g, v.ownBlock = some g → O g) → (∀ g, u.ownBlock = some g → O g) → (∀ j, j < n → U j = V ((n - 1 - j + p) % n)) → Sl A 5 v → Sl A 10 u → Rt Ju RB (base 4) kx O A (fun W => (Keep (fun b => b < lo) W1 W ∧ ELst lo (fun b => O b ∨ b < lo) v n V ls W) ∧ SRow lo W u n U)) :
    ∀ d k O A u U, d = n - k → k ≤ n → A.tmps.size = 101 → A.defers = [] → SV u k → (∀ g, v.ownBlock = some g → O g) → (∀ g, u.ownBlock = some g → O g) → (∀ j, j < k → U j = V ((k - 1 - j + p) % n)) → Sl A 1 (.int .i64 tn) → Sl A 5 v → Sl A 9 (.int .i64 n) → Sl A 10 u → Sl A 11 (.int .i64 k) →
      Rt Ju RB (base 4) (.code lp2C :: .inLoop lp2C :: .inBlock 2 :: kx) O A (fun W => (Keep (fun b => b < lo) W1 W ∧ ELst lo (fun b => O b ∨ b < lo) v n V ls W) ∧ SRow lo W u k U) := by
  have hB : (base 4).kind ≠ .early := by simp [base]
  have hst : ∀ (O : Blk) (u : Value) (k : Nat) (U : Nat → Value), (∀ g, v.ownBlock = some g → O g) → (∀ g, u.ownBlock = some g → O g) → Stable O (shR lo Gr) fun W => (Keep (fun b => b < lo) W1 W ∧ ELst lo (fun b => O b ∨ b < lo) v n V ls W) ∧ SRow lo W u k U := fun O u k U h1 h2 => Stable.and (Stable.and (fun W W' hr z => z.rely hr fun b hb => .inr hb) fun W W' hr z => z.rely hr h1 fun b hb => hb) fun W W' hr z => z.rely h2 hr
  intro d
  induction d with
  | zero =>
    intro k O A u U hd hk hsz hdf hsu hov hou hU s1 s5 s9 s10 s11
    obtain rfl : k = n := by omega
    have hz := hst O u k U hov hou
    rw [show (Item.code lp2C : Item) = _ from congrArg Item.code lp2C_eq]
    refine rt_seq hJ hz ?_
    refine rt_seq hJ hz ?_
    rw [show f12C = .region 12 (regOps (f12C)) false from by kernel_rfl]
    refine rt_region hJ hz ?_
    rw [show List.range (regOps (f12C)).size = [0, 1, 2] from by kernel_rfl]
    obtain ⟨o, ho, hop, hg, hdst⟩ : ∃ o, (regOps (f12C))[0]? = some o ∧ o.op = .move (.tmp 11) ∧ o.guard = none ∧ o.dst = some 44 := ⟨((regOps (f12C))[0]?).getD default, by kernel_rfl, by kernel_rfl, by kernel_rfl, by kernel_rfl⟩
    refine rt_val hJ hz hB ho hg (v := (.int .i64 k)) (fun W z => move1 hop s11.eval) (fun e he => by simp at he) ?_
    rw [hdst]
    replace s1 := s1.ne (d := 44) (u := (.int .i64 k)) (by decide)
    replace s5 := s5.ne (d := 44) (u := (.int .i64 k)) (by decide)
    replace s9 := s9.ne (d := 44) (u := (.int .i64 k)) (by decide)
    replace s10 := s10.ne (d := 44) (u := (.int .i64 k)) (by decide)
    replace s11 := s11.ne (d := 44) (u := (.int .i64 k)) (by decide)
    have s44 : Sl (A.put (some 44) (.int .i64 k)) 44 (.int .i64 k) := Sl.same (by rw [hsz]; decide)
    replace hsz : (A.put (some 44) (.int .i64 k)).tmps.size = 101 := (put_size _ _ _).trans hsz
    replace hdf : (A.put (some 44) (.int .i64 k)).defers = [] := (put_defers _ _ _).trans hdf
    generalize A.put (some 44) (.int .i64 k) = A at *
    clear ho hop hg hdst
    obtain ⟨o, ho, hop, hg, hdst⟩ : ∃ o, (regOps (f12C))[1]? = some o ∧ o.op = .move (.tmp 9) ∧ o.guard = none ∧ o.dst = some 45 := ⟨((regOps (f12C))[1]?).getD default, by kernel_rfl, by kernel_rfl, by kernel_rfl, by kernel_rfl⟩
    refine rt_val hJ hz hB ho hg (v := (.int .i64 k)) (fun W z => move1 hop s9.eval) (fun e he => by simp at he) ?_
    rw [hdst]
    replace s1 := s1.ne (d := 45) (u := (.int .i64 k)) (by decide)
    replace s5 := s5.ne (d := 45) (u := (.int .i64 k)) (by decide)
    replace s9 := s9.ne (d := 45) (u := (.int .i64 k)) (by decide)
    replace s10 := s10.ne (d := 45) (u := (.int .i64 k)) (by decide)
    replace s11 := s11.ne (d := 45) (u := (.int .i64 k)) (by decide)
    replace s44 := s44.ne (d := 45) (u := (.int .i64 k)) (by decide)
    have s45 : Sl (A.put (some 45) (.int .i64 k)) 45 (.int .i64 k) := Sl.same (by rw [hsz]; decide)
    replace hsz : (A.put (some 45) (.int .i64 k)).tmps.size = 101 := (put_size _ _ _).trans hsz
    replace hdf : (A.put (some 45) (.int .i64 k)).defers = [] := (put_defers _ _ _).trans hdf
    generalize A.put (some 45) (.int .i64 k) = A at *
    clear ho hop hg hdst
    obtain ⟨o, ho, hop, hg, hdst⟩ : ∃ o, (regOps (f12C))[2]? = some o ∧ o.op = .binOp .lss 3 (.tmp 44) (.tmp 45) 3 ∧ o.guard = none ∧ o.dst = some 46 := ⟨((regOps (f12C))[2]?).getD default, by kernel_rfl, by kernel_rfl, by kernel_rfl, by kernel_rfl⟩
    refine rt_val hJ hz hB ho hg (v := (.bool false)) (fun W z => by have q := ltI (w := W) hop s44.eval s45.eval; rw [show decide ((k : Int) < (k : Int)) = false from by simp; try omega] at q; exact q) (fun e he => by simp at he) ?_
    rw [hdst]
    replace s1 := s1.ne (d := 46) (u := (.bool false)) (by decide)
    replace s5 := s5.ne (d := 46) (u := (.bool false)) (by decide)
    replace s9 := s9.ne (d := 46) (u := (.bool false)) (by decide)
    replace s10 := s10.ne (d := 46) (u := (.bool false)) (by decide)
    replace s11 := s11.ne (d := 46) (u := (.bool false)) (by decide)
    replace s44 := s44.ne (d := 46) (u := (.bool false)) (by decide)
    replace s45 := s45.ne (d := 46) (u := (.bool false)) (by decide)
    have s46 : Sl (A.put (some 46) (.bool false)) 46 (.bool false) := Sl.same (by rw [hsz]; decide)
    replace hsz : (A.put (some 46) (.bool false)).tmps.size = 101 := (put_size _ _ _).trans hsz
    replace hdf : (A.put (some 46) (.bool false)).defers = [] := (put_defers _ _ _).trans hdf
    generalize A.put (some 46) (.bool false) = A at *
    clear ho hop hg hdst
    refine rt_region_end hJ hz ?_
    refine rt_cond hJ hz (b := false) s46.eval ?_
    simp only [Bool.false_eq_true, if_false]
    refine rt_exit hJ hz (k' := kx) (by simp [exitTo]) ?_
    exact hx O A u U hsz hdf hsu hov hou hU s5 s10
  | succ d ih =>
    intro k O A u U hd hk hsz hdf hsu hov hou hU s1 s5 s9 s10 s11
    have hz := hst O u k U hov hou
    have hlt : k < n := by omega
    obtain ⟨hpk, hpn⟩ := hp (by omega)
    obtain ⟨g, cv, rfl⟩ : ∃ g c, v = .slice (some ⟨g, 0, none⟩) n c := by
      rcases hvn with ⟨h, _⟩ | ⟨_, h⟩
      · omega
      · exact h
    have hog : O g := hov g rfl
    obtain ⟨q, hq⟩ : ∃ q, q = (k + p) % n := ⟨_, rfl⟩
    have hqn : q < n := by rw [hq]; exact Nat.mod_lt _ (by omega)
    rw [show (Item.code lp2C : Item) = _ from congrArg Item.code lp2C_eq]
    refine rt_seq hJ hz ?_
    refine rt_seq hJ hz ?_
    rw [show f12C = .region 12 (regOps (f12C)) false from by kernel_rfl]
    refine rt_region hJ hz ?_
    rw [show List.range (regOps (f12C)).size = [0, 1, 2] from by kernel_rfl]
    obtain ⟨o, ho, hop, hg, hdst⟩ : ∃ o, (regOps (f12C))[0]? = some o ∧ o.op = .move (.tmp 11) ∧ o.guard = none ∧ o.dst = some 44 := ⟨((regOps (f12C))[0]?).getD default, by kernel_rfl, by kernel_rfl, by kernel_rfl, by kernel_rfl⟩
    refine rt_val hJ hz hB ho hg (v := (.int .i64 k)) (fun W z => move1 hop s11.eval) (fun e he => by simp at he) ?_
    rw [hdst]
    replace s1 := s1.ne (d := 44) (u := (.int .i64 k)) (by decide)
    replace s5 := s5.ne (d := 44) (u := (.int .i64 k)) (by decide)
    replace s9 := s9.ne (d := 44) (u := (.int .i64 k)) (by decide)
    replace s10 := s10.ne (d := 44) (u := (.int .i64 k)) (by decide)
    replace s11 := s11.ne (d := 44) (u := (.int .i64 k)) (by decide)
    have s44 : Sl (A.put (some 44) (.int .i64 k)) 44 (.int .i64 k) := Sl.same (by rw [hsz]; decide)
    replace hsz : (A.put (some 44) (.int .i64 k)).tmps.size = 101 := (put_size _ _ _).trans hsz
    replace hdf : (A.put (some 44) (.int .i64 k)).defers = [] := (put_defers _ _ _).trans hdf
    generalize A.put (some 44) (.int .i64 k) = A at *
    clear ho hop hg hdst
    obtain ⟨o, ho, hop, hg, hdst⟩ : ∃ o, (regOps (f12C))[1]? = some o ∧ o.op = .move (.tmp 9) ∧ o.guard = none ∧ o.dst = some 45 := ⟨((regOps (f12C))[1]?).getD default, by kernel_rfl, by kernel_rfl, by kernel_rfl, by kernel_rfl⟩
    refine rt_val hJ hz hB ho hg (v := (.int .i64 n)) (fun W z => move1 hop s9.eval) (fun e he => by simp at he) ?_
    rw [hdst]
    replace s1 := s1.ne (d := 45) (u := (.int .i64 n)) (by decide)
    replace s5 := s5.ne (d := 45) (u := (.int .i64 n)) (by decide)
    replace s9 := s9.ne (d := 45) (u := (.int .i64 n)) (by decide)
    replace s10 := s10.ne (d := 45) (u := (.int .i64 n)) (by decide)
    replace s11 := s11.ne (d := 45) (u := (.int .i64 n)) (by decide)
    replace s44 := s44.ne (d := 45) (u := (.int .i64 n)) (by decide)
    have s45 : Sl (A.put (some 45) (.int .i64 n)) 45 (.int .i64 n) := Sl.same (by rw [hsz]; decide)
    replace hsz : (A.put (some 45) (.int .i64 n)).tmps.size = 101 := (put_size _ _ _).trans hsz
    replace hdf : (A.put (some 45) (.int .i64 n)).defers = [] := (put_defers _ _ _).trans hdf
    generalize A.put (some 45) (.int .i64 n) = A at *
    clear ho hop hg hdst
    obtain ⟨o, ho, hop, hg, hdst⟩ : ∃ o, (regOps (f12C))[2]? = some o ∧ o.op = .binOp .lss 3 (.tmp 44) (.tmp 45) 3 ∧ o.guard = none ∧ o.dst = some 46 := ⟨((regOps (f12C))[2]?).getD default, by kernel_rfl, by kernel_rfl, by kernel_rfl, by kernel_rfl⟩
    refine rt_val hJ hz hB ho hg (v := (.bool true)) (fun W z => by have q := ltI (w := W) hop s44.eval s45.eval; rw [show decide ((k : Int) < (n : Int)) = true from by simp; try omega] at q; exact q) (fun e he => by simp at he) ?_
    rw [hdst]
    replace s1 := s1.ne (d := 46) (u := (.bool true)) (by decide)
    replace s5 := s5.ne (d := 46) (u := (.bool true)) (by decide)
    replace s9 := s9.ne (d := 46) (u := (.bool true)) (by decide)
    replace s10 := s10.ne (d := 46) (u := (.bool true)) (by decide)
    replace s11 := s11.ne (d := 46) (u := (.bool true)) (by decide)
    replace s44 := s44.ne (d := 46) (u := (.bool true)) (by decide)
    replace s45 := s45.ne (d := 46) (u := (.bool true)) (by decide)
    have s46 : Sl (A.put (some 46) (.bool true)) 46 (.bool true) := Sl.same (by rw [hsz]; decide)
    replace hsz : (A.put (some 46) (.bool true)).tmps.size = 101 := (put_size _ _ _).trans hsz
    replace hdf : (A.put (some 46) (.bool true)).defers = [] := (put_defers _ _ _).trans hdf
    generalize A.put (some 46) (.bool true) = A at *
    clear ho hop hg hdst
    refine rt_region_end hJ hz ?_
    refine rt_cond hJ hz (b := true) s46.eval ?_
    simp only [if_true]
    refine rt_skip hJ hz ?_
    refine rt_seq hJ hz ?_
    refine rt_block hJ hz ?_
    rw [show f14C = .region 14 (regOps (f14C)) false from by kernel_rfl]
    refine rt_region hJ hz ?_
    rw [show List.range (regOps (f14C)).size = [0, 1, 2, 3, 4, 5, 6, 7, 8, 9, 10, 11, 12, 13] from by kernel_rfl]
    obtain ⟨o, ho, hop, hg, hdst⟩ : ∃ o, (regOps (f14C))[0]? = some o ∧ o.op = .move (.tmp 5) ∧ o.guard = none ∧ o.dst = some 49 := ⟨((regOps (f14C))[0]?).getD default, by kernel_rfl, by kernel_rfl, by kernel_rfl, by kernel_rfl⟩
    refine rt_val hJ hz hB ho hg (v := (.slice (some ⟨g, 0, none⟩) n cv)) (fun W z => move1 hop s5.eval) (fun e he => by simp at he) ?_
    rw [hdst]
    replace s1 := s1.ne (d := 49) (u := (.slice (some ⟨g, 0, none⟩) n cv)) (by decide)
    replace s5 := s5.ne (d := 49) (u := (.slice (some ⟨g, 0, none⟩) n cv)) (by decide)
    replace s9 := s9.ne (d := 49) (u := (.slice (some ⟨g, 0, none⟩) n cv)) (by decide)
    replace s10 := s10.ne (d := 49) (u := (.slice (some ⟨g, 0, none⟩) n cv)) (by decide)
    replace s11 := s11.ne (d := 49) (u := (.slice (some ⟨g, 0, none⟩) n cv)) (by decide)
    replace s44 := s44.ne (d := 49) (u := (.slice (some ⟨g, 0, none⟩) n cv)) (by decide)
    replace s45 := s45.ne (d := 49) (u := (.slice (some ⟨g, 0, none⟩) n cv)) (by decide)
    replace s46 := s46.ne (d := 49) (u := (.slice (some ⟨g, 0, none⟩) n cv)) (by decide)
    have s49 : Sl (A.put (some 49) (.slice (some ⟨g, 0, none⟩) n cv)) 49 (.slice (some ⟨g, 0, none⟩) n cv) := Sl.same (by rw [hsz]; decide)
    replace hsz : (A.put (some 49) (.slice (some ⟨g, 0, none⟩) n cv)).tmps.size = 101 := (put_size _ _ _).trans hsz
    replace hdf : (A.put (some 49) (.slice (some ⟨g, 0, none⟩) n cv)).defers = [] := (put_defers _ _ _).trans hdf
    generalize A.put (some 49) (.slice (some ⟨g, 0, none⟩) n cv) = A at *
    clear ho hop hg hdst
    obtain ⟨o, ho, hop, hg, hdst⟩ : ∃ o, (regOps (f14C))[1]? = some o ∧ o.op = .move (.tmp 11) ∧ o.guard = none ∧ o.dst = some 50 := ⟨((regOps (f14C))[1]?).getD default, by kernel_rfl, by kernel_rfl, by kernel_rfl, by kernel_rfl⟩
    refine rt_val hJ hz hB ho hg (v := (.int .i64 k)) (fun W z => move1 hop s11.eval) (fun e he => by simp at he) ?_
    rw [hdst]
    replace s1 := s1.ne (d := 50) (u := (.int .i64 k)) (by decide)
    replace s5 := s5.ne (d := 50) (u := (.int .i64 k)) (by decide)
    replace s9 := s9.ne (d := 50) (u := (.int .i64 k)) (by decide)
    replace s10 := s10.ne (d := 50) (u := (.int .i64 k)) (by decide)
    replace s11 := s11.ne (d := 50) (u := (.int .i64 k)) (by decide)
    replace s44 := s44.ne (d := 50) (u := (.int .i64 k)) (by decide)
    replace s45 := s45.ne (d := 50) (u := (.int .i64 k)) (by decide)
    replace s46 := s46.ne (d := 50) (u := (.int .i64 k)) (by decide)
    replace s49 := s49.ne (d := 50) (u := (.int .i64 k)) (by decide)
    have s50 : Sl (A.put (some 50) (.int .i64 k)) 50 (.int .i64 k) := Sl.same (by rw [hsz]; decide)
    replace hsz : (A.put (some 50) (.int .i64 k)).tmps.size = 101 := (put_size _ _ _).trans hsz
    replace hdf : (A.put (some 50) (.int .i64 k)).defers = [] := (put_defers _ _ _).trans hdf
    generalize A.put (some 50) (.int .i64 k) = A at *
    clear ho hop hg hdst
    obtain ⟨o, ho, hop, hg, hdst⟩ : ∃ o, (regOps (f14C))[2]? = some o ∧ o.op = .move (.tmp 1) ∧ o.guard = none ∧ o.dst = some 51 := ⟨((regOps (f14C))[2]?).getD default, by kernel_rfl, by kernel_rfl, by kernel_rfl, by kernel_rfl⟩
    refine rt_val hJ hz hB ho hg (v := (.int .i64 tn)) (fun W z => move1 hop s1.eval) (fun e he => by simp at he) ?_
    rw [hdst]
    replace s1 := s1.ne (d := 51) (u := (.int .i64 tn)) (by decide)
    replace s5 := s5.ne (d := 51) (u := (.int .i64 tn)) (by decide)
    replace s9 := s9.ne (d := 51) (u := (.int .i64 tn)) (by decide)
    replace s10 := s10.ne (d := 51) (u := (.int .i64 tn)) (by decide)
    replace s11 := s11.ne (d := 51) (u := (.int .i64 tn)) (by decide)
    replace s44 := s44.ne (d := 51) (u := (.int .i64 tn)) (by decide)
    replace s45 := s45.ne (d := 51) (u := (.int .i64 tn)) (by decide)
    replace s46 := s46.ne (d := 51) (u := (.int .i64 tn)) (by decide)
    replace s49 := s49.ne (d := 51) (u := (.int .i64 tn)) (by decide)
    replace s50 := s50.ne (d := 51) (u := (.int .i64 tn)) (by decide)
    have s51 : Sl (A.put (some 51) (.int .i64 tn)) 51 (.int .i64 tn) := Sl.same (by rw [hsz]; decide)
    replace hsz : (A.put (some 51) (.int .i64 tn)).tmps.size = 101 := (put_size _ _ _).trans hsz
    replace hdf : (A.put (some 51) (.int .i64 tn)).defers = [] := (put_defers _ _ _).trans hdf
    generalize A.put (some 51) (.int .i64 tn) = A at *
    clear ho hop hg hdst
    obtain ⟨o, ho, hop, hg, hdst⟩ : ∃ o, (regOps (f14C))[3]? = some o ∧ o.op = .move (.tmp 9) ∧ o.guard = none ∧ o.dst = some 52 := ⟨((regOps (f14C))[3]?).getD default, by kernel_rfl, by kernel_rfl, by kernel_rfl, by kernel_rfl⟩
    refine rt_val hJ hz hB ho hg (v := (.int .i64 n)) (fun W z => move1 hop s9.eval) (fun e he => by simp at he) ?_
    rw [hdst]
    replace s1 := s1.ne (d := 52) (u := (.int .i64 n)) (by decide)
    replace s5 := s5.ne (d := 52) (u := (.int .i64 n)) (by decide)
    replace s9 := s9.ne (d := 52) (u := (.int .i64 n)) (by decide)
    replace s10 := s10.ne (d := 52) (u := (.int .i64 n)) (by decide)
    replace s11 := s11.ne (d := 52) (u := (.int .i64 n)) (by decide)
    replace s44 := s44.ne (d := 52) (u := (.int .i64 n)) (by decide)
    replace s45 := s45.ne (d := 52) (u := (.int .i64 n)) (by decide)
    replace s46 := s46.ne (d := 52) (u := (.int .i64 n)) (by decide)
    replace s49 := s49.ne (d := 52) (u := (.int .i64 n)) (by decide)
    replace s50 := s50.ne (d := 52) (u := (.int .i64 n)) (by decide)
    replace s51 := s51.ne (d := 52) (u := (.int .i64 n)) (by decide)
    have s52 : Sl (A.put (some 52) (.int .i64 n)) 52 (.int .i64 n) := Sl.same (by rw [hsz]; decide)
    replace hsz : (A.put (some 52) (.int .i64 n)).tmps.size = 101 := (put_size _ _ _).trans hsz
    replace hdf : (A.put (some 52) (.int .i64 n)).defers = [] := (put_defers _ _ _).trans hdf
    generalize A.put (some 52) (.int .i64 n) = A at *
    clear ho hop hg hdst
    obtain ⟨o, ho, hop, hg, hdst⟩ : ∃ o, (regOps (f14C))[4]? = some o ∧ o.op = .call { callee := .value (.func 5), args := #[.tmp 51, .tmp 52], argTypes := #[3, 3] } ∧ o.guard = none ∧ o.dst = some 53 := ⟨((regOps (f14C))[4]?).getD default, by kernel_rfl, by kernel_rfl, by kernel_rfl, by kernel_rfl⟩
    refine rt_picked hJ hz hB ho hg hop s51.eval s52.eval (by omega) (by omega) (fun W z => Nat.le_trans hgl1 z.1.1.size) fun O2 hO2 => ?_
    rw [hpk]
    rw [hdst]
    replace s1 := s1.ne (d := 53) (u := (.int .i64 p)) (by decide)
    replace s5 := s5.ne (d := 53) (u := (.int .i64 p)) (by decide)
    replace s9 := s9.ne (d := 53) (u := (.int .i64 p)) (by decide)
    replace s10 := s10.ne (d := 53) (u := (.int .i64 p)) (by decide)
    replace s11 := s11.ne (d := 53) (u := (.int .i64 p)) (by decide)
    replace s44 := s44.ne (d := 53) (u := (.int .i64 p)) (by decide)
    replace s45 := s45.ne (d := 53) (u := (.int .i64 p)) (by decide)
    replace s46 := s46.ne (d := 53) (u := (.int .i64 p)) (by decide)
    replace s49 := s49.ne (d := 53) (u := (.int .i64 p)) (by decide)
    replace s50 := s50.ne (d := 53) (u := (.int .i64 p)) (by decide)
    replace s51 := s51.ne (d := 53) (u := (.int .i64 p)) (by decide)
    replace s52 := s52.ne (d := 53) (u := (.int .i64 p)) (by decide)
    have s53 : Sl (A.put (some 53) (.int .i64 p)) 53 (.int .i64 p) := Sl.same (by rw [hsz]; decide)
    replace hsz : (A.put (some 53) (.int .i64 p)).tmps.size = 101 := (put_size _ _ _).trans hsz
    replace hdf : (A.put (some 53) (.int .i64 p)).defers = [] := (put_defers _ _ _).trans hdf
    generalize A.put (some 53) (.int .i64 p) = A at *
    clear ho hop hg hdst
    refine Rt.mono (Z' := fun W => (Keep (fun b => b < lo) W1 W ∧ ELst lo (fun b => O2 b ∨ b < lo) (.slice (some ⟨g, 0, none⟩) n cv) n V ls W) ∧ SRow lo W u k U) ?_ fun W z => ⟨⟨z.1.1, z.1.2.mono fun b hb => hb.imp (hO2 b) id⟩, z.2⟩
    have hov2 : ∀ x, (Value.slice (some ⟨g, 0, none⟩) n cv).ownBlock = some x → O2 x := fun x hg => hO2 x (hov x hg)
    have hou2 : ∀ x, u.ownBlock = some x → O2 x := fun x hg => hO2 x (hou x hg)
    replace hog := hO2 g hog
    clear hz hov hou hO2
    have hz := hst O2 u k U hov2 hou2
    obtain ⟨o, ho, hop, hg, hdst⟩ : ∃ o, (regOps (f14C))[5]? = some o ∧ o.op = .binOp .add 3 (.tmp 50) (.tmp 53) 3 ∧ o.guard = none ∧ o.dst = some 54 := ⟨((regOps (f14C))[5]?).getD default, by kernel_rfl, by kernel_rfl, by kernel_rfl, by kernel_rfl⟩
    refine rt_val hJ hz hB ho hg (v := (.int .i64 ((k + p : Nat) : Int))) (fun W z => by have q := addI (w := W) hop s50.eval s53.eval (by omega); exact q) (fun e he => by simp at he) ?_
    rw [hdst]
    replace s1 := s1.ne (d := 54) (u := (.int .i64 ((k + p : Nat) : Int))) (by decide)
    replace s5 := s5.ne (d := 54) (u := (.int .i64 ((k + p : Nat) : Int))) (by decide)
    replace s9 := s9.ne (d := 54) (u := (.int .i64 ((k + p : Nat) : Int))) (by decide)
    replace s10 := s10.ne (d := 54) (u := (.int .i64 ((k + p : Nat) : Int))) (by decide)
    replace s11 := s11.ne (d := 54) (u := (.int .i64 ((k + p : Nat) : Int))) (by decide)
    replace s44 := s44.ne (d := 54) (u := (.int .i64 ((k + p : Nat) : Int))) (by decide)
    replace s45 := s45.ne (d := 54) (u := (.int .i64 ((k + p : Nat) : Int))) (by decide)
    replace s46 := s46.ne (d := 54) (u := (.int .i64 ((k + p : Nat) : Int))) (by decide)
    replace s49 := s49.ne (d := 54) (u := (.int .i64 ((k + p : Nat) : Int))) (by decide)
    replace s50 := s50.ne (d := 54) (u := (.int .i64 ((k + p : Nat) : Int))) (by decide)
    replace s51 := s51.ne (d := 54) (u := (.int .i64 ((k + p : Nat) : Int))) (by decide)
    replace s52 := s52.ne (d := 54) (u := (.int .i64 ((k + p : Nat) : Int))) (by decide)
    replace s53 := s53.ne (d := 54) (u := (.int .i64 ((k + p : Nat) : Int))) (by decide)
    have s54 : Sl (A.put (some 54) (.int .i64 ((k + p : Nat) : Int))) 54 (.int .i64 ((k + p : Nat) : Int)) := Sl.same (by rw [hsz]; decide)
    replace hsz : (A.put (some 54) (.int .i64 ((k + p : Nat) : Int))).tmps.size = 101 := (put_size _ _ _).trans hsz
    replace hdf : (A.put (some 54) (.int .i64 ((k + p : Nat) : Int))).defers = [] := (put_defers _ _ _).trans hdf
    generalize A.put (some 54) (.int .i64 ((k + p : Nat) : Int)) = A at *
    clear ho hop hg hdst
    obtain ⟨o, ho, hop, hg, hdst⟩ : ∃ o, (regOps (f14C))[6]? = some o ∧ o.op = .move (.tmp 9) ∧ o.guard = none ∧ o.dst = some 55 := ⟨((regOps (f14C))[6]?).getD default, by kernel_rfl, by kernel_rfl, by kernel_rfl, by kernel_rfl⟩
    refine rt_val hJ hz hB ho hg (v := (.int .i64 n)) (fun W z => move1 hop s9.eval) (fun e he => by simp at he) ?_
    rw [hdst]
    replace s1 := s1.ne (d := 55) (u := (.int .i64 n)) (by decide)
    replace s5 := s5.ne (d := 55) (u := (.int .i64 n)) (by decide)
    replace s9 := s9.ne (d := 55) (u := (.int .i64 n)) (by decide)
    replace s10 := s10.ne (d := 55) (u := (.int .i64 n)) (by decide)
    replace s11 := s11.ne (d := 55) (u := (.int .i64 n)) (by decide)
    replace s44 := s44.ne (d := 55) (u := (.int .i64 n)) (by decide)
    replace s45 := s45.ne (d := 55) (u := (.int .i64 n)) (by decide)
    replace s46 := s46.ne (d := 55) (u := (.int .i64 n)) (by decide)
    replace s49 := s49.ne (d := 55) (u := (.int .i64 n)) (by decide)
    replace s50 := s50.ne (d := 55) (u := (.int .i64 n)) (by decide)
    replace s51 := s51.ne (d := 55) (u := (.int .i64 n)) (by decide)
    replace s52 := s52.ne (d := 55) (u := (.int .i64 n)) (by decide)
    replace s53 := s53.ne (d := 55) (u := (.int .i64 n)) (by decide)
    replace s54 := s54.ne (d := 55) (u := (.int .i64 n)) (by decide)
    have s55 : Sl (A.put (some 55) (.int .i64 n)) 55 (.int .i64 n) := Sl.same (by rw [hsz]; decide)
    replace hsz : (A.put (some 55) (.int .i64 n)).tmps.size = 101 := (put_size _ _ _).trans hsz
    replace hdf : (A.put (some 55) (.int .i64 n)).defers = [] := (put_defers _ _ _).trans hdf
    generalize A.put (some 55) (.int .i64 n) = A at *
    clear ho hop hg hdst
    obtain ⟨o, ho, hop, hg, hdst⟩ : ∃ o, (regOps (f14C))[7]? = some o ∧ o.op = .binOp .rem 3 (.tmp 54) (.tmp 55) 3 ∧ o.guard = none ∧ o.dst = some 56 := ⟨((regOps (f14C))[7]?).getD default, by kernel_rfl, by kernel_rfl, by kernel_rfl, by kernel_rfl⟩
    refine rt_val hJ hz hB ho hg (v := (.int .i64 q)) (fun W z => by have r := remI (w := W) hop s54.eval s55.eval (by omega) (by omega); rw [← hq] at r; exact r) (fun e he => by simp at he) ?_
    rw [hdst]
    replace s1 := s1.ne (d := 56) (u := (.int .i64 q)) (by decide)
    replace s5 := s5.ne (d := 56) (u := (.int .i64 q)) (by decide)
    replace s9 := s9.ne (d := 56) (u := (.int .i64 q)) (by decide)
    replace s10 := s10.ne (d := 56) (u := (.int .i64 q)) (by decide)
    replace s11 := s11.ne (d := 56) (u := (.int .i64 q)) (by decide)
    replace s44 := s44.ne (d := 56) (u := (.int .i64 q)) (by decide)
    replace s45 := s45.ne (d := 56) (u := (.int .i64 q)) (by decide)
    replace s46 := s46.ne (d := 56) (u := (.int .i64 q)) (by decide)
    replace s49 := s49.ne (d := 56) (u := (.int .i64 q)) (by decide)
    replace s50 := s50.ne (d := 56) (u := (.int .i64 q)) (by decide)
    replace s51 := s51.ne (d := 56) (u := (.int .i64 q)) (by decide)
    replace s52 := s52.ne (d := 56) (u := (.int .i64 q)) (by decide)
    replace s53 := s53.ne (d := 56) (u := (.int .i64 q)) (by decide)
    replace s54 := s54.ne (d := 56) (u := (.int .i64 q)) (by decide)
    replace s55 := s55.ne (d := 56) (u := (.int .i64 q)) (by decide)
    have s56 : Sl (A.put (some 56) (.int .i64 q)) 56 (.int .i64 q) := Sl.same (by rw [hsz]; decide)
    replace hsz : (A.put (some 56) (.int .i64 q)).tmps.size = 101 := (put_size _ _ _).trans hsz
    replace hdf : (A.put (some 56) (.int .i64 q)).defers = [] := (put_defers _ _ _).trans hdf
    generalize A.put (some 56) (.int .i64 q) = A at *
    clear ho hop hg hdst
    obtain ⟨o, ho, hop, hg, hdst⟩ : ∃ o, (regOps (f14C))[8]? = some o ∧ o.op = .indexAddr 34 (.tmp 49) (.tmp 56) ∧ o.guard = none ∧ o.dst = some 57 := ⟨((regOps (f14C))[8]?).getD default, by kernel_rfl, by kernel_rfl, by kernel_rfl, by kernel_rfl⟩
    refine rt_val hJ hz hB ho hg (v := (.pointer (some ⟨g, q, none⟩))) (fun W z => ixLL hop s49.eval s56.eval hqn (by omega)) (fun e he => by simp at he) ?_
    rw [hdst]
    replace s1 := s1.ne (d := 57) (u := (.pointer (some ⟨g, q, none⟩))) (by decide)
    replace s5 := s5.ne (d := 57) (u := (.pointer (some ⟨g, q, none⟩))) (by decide)
    replace s9 := s9.ne (d := 57) (u := (.pointer (some ⟨g, q, none⟩))) (by decide)
    replace s10 := s10.ne (d := 57) (u := (.pointer (some ⟨g, q, none⟩))) (by decide)
    replace s11 := s11.ne (d := 57) (u := (.pointer (some ⟨g, q, none⟩))) (by decide)
    replace s44 := s44.ne (d := 57) (u := (.pointer (some ⟨g, q, none⟩))) (by decide)
    replace s45 := s45.ne (d := 57) (u := (.pointer (some ⟨g, q, none⟩))) (by decide)
    replace s46 := s46.ne (d := 57) (u := (.pointer (some ⟨g, q, none⟩))) (by decide)
    replace s49 := s49.ne (d := 57) (u := (.pointer (some ⟨g, q, none⟩))) (by decide)
    replace s50 := s50.ne (d := 57) (u := (.pointer (some ⟨g, q, none⟩))) (by decide)
    replace s51 := s51.ne (d := 57) (u := (.pointer (some ⟨g, q, none⟩))) (by decide)
    replace s52 := s52.ne (d := 57) (u := (.pointer (some ⟨g, q, none⟩))) (by decide)
    replace s53 := s53.ne (d := 57) (u := (.pointer (some ⟨g, q, none⟩))) (by decide)
    replace s54 := s54.ne (d := 57) (u := (.pointer (some ⟨g, q, none⟩))) (by decide)
    replace s55 := s55.ne (d := 57) (u := (.pointer (some ⟨g, q, none⟩))) (by decide)
    replace s56 := s56.ne (d := 57) (u := (.pointer (some ⟨g, q, none⟩))) (by decide)
    have s57 : Sl (A.put (some 57) (.pointer (some ⟨g, q, none⟩))) 57 (.pointer (some ⟨g, q, none⟩)) := Sl.same (by rw [hsz]; decide)
    replace hsz : (A.put (some 57) (.pointer (some ⟨g, q, none⟩))).tmps.size = 101 := (put_size _ _ _).trans hsz
    replace hdf : (A.put (some 57) (.pointer (some ⟨g, q, none⟩))).defers = [] := (put_defers _ _ _).trans hdf
    generalize A.put (some 57) (.pointer (some ⟨g, q, none⟩)) = A at *
    clear ho hop hg hdst
    obtain ⟨o, ho, hop, hg, hdst⟩ : ∃ o, (regOps (f14C))[9]? = some o ∧ o.op = .load 35 (.tmp 57) ∧ o.guard = none ∧ o.dst = some 58 := ⟨((regOps (f14C))[9]?).getD default, by kernel_rfl, by kernel_rfl, by kernel_rfl, by kernel_rfl⟩
    refine rt_val hJ hz hB ho hg (v := (V q)) (fun W z => loadL hop s57.eval (z.1.2.row.cell hqn)) (fun e he => by simp at he; subst he; exact .cell _ _ (.inl hog)) ?_
    rw [hdst]
    replace s1 := s1.ne (d := 58) (u := (V q)) (by decide)
    replace s5 := s5.ne (d := 58) (u := (V q)) (by decide)
    replace s9 := s9.ne (d := 58) (u := (V q)) (by decide)
    replace s10 := s10.ne (d := 58) (u := (V q)) (by decide)
    replace s11 := s11.ne (d := 58) (u := (V q)) (by decide)
    replace s44 := s44.ne (d := 58) (u := (V q)) (by decide)
    replace s45 := s45.ne (d := 58) (u := (V q)) (by decide)
    replace s46 := s46.ne (d := 58) (u := (V q)) (by decide)
    replace s49 := s49.ne (d := 58) (u := (V q)) (by decide)
    replace s50 := s50.ne (d := 58) (u := (V q)) (by decide)
    replace s51 := s51.ne (d := 58) (u := (V q)) (by decide)
    replace s52 := s52.ne (d := 58) (u := (V q)) (by decide)
    replace s53 := s53.ne (d := 58) (u := (V q)) (by decide)
    replace s54 := s54.ne (d := 58) (u := (V q)) (by decide)
    replace s55 := s55.ne (d := 58) (u := (V q)) (by decide)
    replace s56 := s56.ne (d := 58) (u := (V q)) (by decide)
    replace s57 := s57.ne (d := 58) (u := (V q)) (by decide)
    have s58 : Sl (A.put (some 58) (V q)) 58 (V q) := Sl.same (by rw [hsz]; decide)
    replace hsz : (A.put (some 58) (V q)).tmps.size = 101 := (put_size _ _ _).trans hsz
    replace hdf : (A.put (some 58) (V q)).defers = [] := (put_defers _ _ _).trans hdf
    generalize A.put (some 58) (V q) = A at *
    clear ho hop hg hdst
    intro Wx zx
    obtain ⟨a2, c2, e2⟩ := (zx.1.2.ent q hqn).sl
    refine (show Rt Ju RB (base 4) _ O2 A (fun W => (Keep (fun b => b < lo) W1 W ∧ ELst lo (fun b => O2 b ∨ b < lo) (.slice (some ⟨g, 0, none⟩) n cv) n V ls W) ∧ SRow lo W u k U) from ?_) Wx zx
    clear zx
    obtain ⟨o, ho, hop, hg, hdst⟩ : ∃ o, (regOps (f14C))[10]? = some o ∧ o.op = .buildSlice 34 1 #[(0, .tmp 58)] ∧ o.guard = none ∧ o.dst = some 59 := ⟨((regOps (f14C))[10]?).getD default, by kernel_rfl, by kernel_rfl, by kernel_rfl, by kernel_rfl⟩
    refine rt_allocv hJ hz hB ho hg (ob := .cells #[.slice a2 (ls q).length c2] 35) (fun b => .slice (some ⟨b, 0, none⟩) 1 1) (fun W z => litL hop (s58.eval.trans e2)) fun b3 hb3 => ?_
    rw [hdst]
    replace s1 := s1.ne (d := 59) (u := (.slice (some ⟨b3, 0, none⟩) 1 1)) (by decide)
    replace s5 := s5.ne (d := 59) (u := (.slice (some ⟨b3, 0, none⟩) 1 1)) (by decide)
    replace s9 := s9.ne (d := 59) (u := (.slice (some ⟨b3, 0, none⟩) 1 1)) (by decide)
    replace s10 := s10.ne (d := 59) (u := (.slice (some ⟨b3, 0, none⟩) 1 1)) (by decide)
    replace s11 := s11.ne (d := 59) (u := (.slice (some ⟨b3, 0, none⟩) 1 1)) (by decide)
    replace s44 := s44.ne (d := 59) (u := (.slice (some ⟨b3, 0, none⟩) 1 1)) (by decide)
    replace s45 := s45.ne (d := 59) (u := (.slice (some ⟨b3, 0, none⟩) 1 1)) (by decide)
    replace s46 := s46.ne (d := 59) (u := (.slice (some ⟨b3, 0, none⟩) 1 1)) (by decide)
    replace s49 := s49.ne (d := 59) (u := (.slice (some ⟨b3, 0, none⟩) 1 1)) (by decide)
    replace s50 := s50.ne (d := 59) (u := (.slice (some ⟨b3, 0, none⟩) 1 1)) (by decide)
    replace s51 := s51.ne (d := 59) (u := (.slice (some ⟨b3, 0, none⟩) 1 1)) (by decide)
    replace s52 := s52.ne (d := 59) (u := (.slice (some ⟨b3, 0, none⟩) 1 1)) (by decide)
    replace s53 := s53.ne (d := 59) (u := (.slice (some ⟨b3, 0, none⟩) 1 1)) (by decide)
    replace s54 := s54.ne (d := 59) (u := (.slice (some ⟨b3, 0, none⟩) 1 1)) (by decide)
    replace s55 := s55.ne (d := 59) (u := (.slice (some ⟨b3, 0, none⟩) 1 1)) (by decide)
    replace s56 := s56.ne (d := 59) (u := (.slice (some ⟨b3, 0, none⟩) 1 1)) (by decide)
    replace s57 := s57.ne (d := 59) (u := (.slice (some ⟨b3, 0, none⟩) 1 1)) (by decide)
    replace s58 := s58.ne (d := 59) (u := (.slice (some ⟨b3, 0, none⟩) 1 1)) (by decide)
    have s59 : Sl (A.put (some 59) (.slice (some ⟨b3, 0, none⟩) 1 1)) 59 (.slice (some ⟨b3, 0, none⟩) 1 1) := Sl.same (by rw [hsz]; decide)
    replace hsz : (A.put (some 59) (.slice (some ⟨b3, 0, none⟩) 1 1)).tmps.size = 101 := (put_size _ _ _).trans hsz
    replace hdf : (A.put (some 59) (.slice (some ⟨b3, 0, none⟩) 1 1)).defers = [] := (put_defers _ _ _).trans hdf
    generalize A.put (some 59) (.slice (some ⟨b3, 0, none⟩) 1 1) = A at *
    clear ho hop hg hdst
    have hz3 : Stable (fun x => O2 x ∨ x = b3) (shR lo Gr) fun W => ((Keep (fun b => b < lo) W1 W ∧ ELst lo (fun b => O2 b ∨ b < lo) (.slice (some ⟨g, 0, none⟩) n cv) n V ls W) ∧ SRow lo W u k U) ∧ W.heap[b3]? = some (.cells #[.slice a2 (ls q).length c2] 35) := Stable.and (hz.more fun x h => .inl h) (Stable.heap (.inl (.inr rfl)))
    rw [← e2] at hz3 ⊢
    have hsq : IsSl (V q) := ⟨_, _, _, e2⟩
    obtain ⟨hb3l, hb3g⟩ : lo ≤ b3 ∧ g ≠ b3 := by obtain ⟨W, z, rfl⟩ := hb3; exact ⟨Nat.le_trans hlo1 z.1.1.size, fun e => by have := z.1.2.row.at.2.1; omega⟩
    have hVs : ∀ j, j < n → IsSl (V j) := fun j hj => by obtain ⟨W, z, _⟩ := hb3; obtain ⟨a, c, e⟩ := (z.1.2.ent j hj).sl; exact ⟨_, _, _, e⟩
    clear hb3 e2
    obtain ⟨o, ho, hop, hg, hdst⟩ : ∃ o, (regOps (f14C))[11]? = some o ∧ o.op = .move (.tmp 10) ∧ o.guard = none ∧ o.dst = some 60 := ⟨((regOps (f14C))[11]?).getD default, by kernel_rfl, by kernel_rfl, by kernel_rfl, by kernel_rfl⟩
    refine rt_val hJ hz3 hB ho hg (v := u) (fun W z => move1 hop s10.eval) (fun e he => by simp at he) ?_
    rw [hdst]
    replace s1 := s1.ne (d := 60) (u := u) (by decide)
    replace s5 := s5.ne (d := 60) (u := u) (by decide)
    replace s9 := s9.ne (d := 60) (u := u) (by decide)
    replace s10 := s10.ne (d := 60) (u := u) (by decide)
    replace s11 := s11.ne (d := 60) (u := u) (by decide)
    replace s44 := s44.ne (d := 60) (u := u) (by decide)
    replace s45 := s45.ne (d := 60) (u := u) (by decide)
    replace s46 := s46.ne (d := 60) (u := u) (by decide)
    replace s49 := s49.ne (d := 60) (u := u) (by decide)
    replace s50 := s50.ne (d := 60) (u := u) (by decide)
    replace s51 := s51.ne (d := 60) (u := u) (by decide)
    replace s52 := s52.ne (d := 60) (u := u) (by decide)
    replace s53 := s53.ne (d := 60) (u := u) (by decide)
    replace s54 := s54.ne (d := 60) (u := u) (by decide)
    replace s55 := s55.ne (d := 60) (u := u) (by decide)
    replace s56 := s56.ne (d := 60) (u := u) (by decide)
    replace s57 := s57.ne (d := 60) (u := u) (by decide)
    replace s58 := s58.ne (d := 60) (u := u) (by decide)
    replace s59 := s59.ne (d := 60) (u := u) (by decide)
    have s60 : Sl (A.put (some 60) u) 60 u := Sl.same (by rw [hsz]; decide)
    replace hsz : (A.put (some 60) u).tmps.size = 101 := (put_size _ _ _).trans hsz
    replace hdf : (A.put (some 60) u).defers = [] := (put_defers _ _ _).trans hdf
    generalize A.put (some 60) u = A at *
    clear ho hop hg hdst
    have fin : ∀ O4 A u2 U2, A.tmps.size = 101 → A.defers = [] → SV u2 (k + 1) → (∀ x, (Value.slice (some ⟨g, 0, none⟩) n cv).ownBlock = some x → O4 x) → (∀ x, u2.ownBlock = some x → O4 x) → (∀ j, j < k + 1 → U2 j = V ((k + 1 - 1 - j + p) % n)) → Sl A 1 (.int .i64 tn) → Sl A 5 (.slice (some ⟨g, 0, none⟩) n cv) → Sl A 9 (.int .i64 n) → Sl A 11 (.int .i64 k) → Sl A 61 u2 → Rt Ju RB (base 4) (.inRegion (regOps f14C) [13] :: .inBlock 3 :: .code f13C :: .inLoop lp2C :: .inBlock 2 :: kx) O4 A (fun W => (Keep (fun b => b < lo) W1 W ∧ ELst lo (fun b => O4 b ∨ b < lo) (.slice (some ⟨g, 0, none⟩) n cv) n V ls W) ∧ SRow lo W u2 (k + 1) U2) := by
      clear hz hz3 hsz hdf hU s1 s5 s9 s10 s11 s44 s45 s46 s49 s50 s51 s52 s53 s54 s55 s56 s57 s58 s59 s60
      intro O4 A u2 U2 hsz hdf hsu2 hov4 hou4 hU2 s1 s5 s9 s11 s61
      have hz := hst O4 u2 (k + 1) U2 hov4 hou4
      obtain ⟨o, ho, hop, hg, hdst⟩ : ∃ o, (regOps (f14C))[13]? = some o ∧ o.op = .assign (.tmp 61) ∧ o.guard = none ∧ o.dst = some 10 := ⟨((regOps (f14C))[13]?).getD default, by kernel_rfl, by kernel_rfl, by kernel_rfl, by kernel_rfl⟩
      refine rt_val hJ hz hB ho hg (v := u2) (fun W z => assign1 hop s61.eval) (fun e he => by simp at he) ?_
      rw [hdst]
      replace s1 := s1.ne (d := 10) (u := u2) (by decide)
      replace s5 := s5.ne (d := 10) (u := u2) (by decide)
      replace s9 := s9.ne (d := 10) (u := u2) (by decide)
      replace s11 := s11.ne (d := 10) (u := u2) (by decide)
      replace s61 := s61.ne (d := 10) (u := u2) (by decide)
      have s10 : Sl (A.put (some 10) u2) 10 u2 := Sl.same (by rw [hsz]; decide)
      replace hsz : (A.put (some 10) u2).tmps.size = 101 := (put_size _ _ _).trans hsz
      replace hdf : (A.put (some 10) u2).defers = [] := (put_defers _ _ _).trans hdf
      generalize A.put (some 10) u2 = A at *
      clear ho hop hg hdst
      refine rt_region_end hJ hz ?_
      refine rt_inBlock hJ hz ?_
      rw [show f13C = .region 13 (regOps (f13C)) false from by kernel_rfl]
      refine rt_region hJ hz ?_
      rw [show List.range (regOps (f13C)).size = [0, 1, 2] from by kernel_rfl]
      obtain ⟨o, ho, hop, hg, hdst⟩ : ∃ o, (regOps (f13C))[0]? = some o ∧ o.op = .move (.tmp 11) ∧ o.guard = none ∧ o.dst = some 47 := ⟨((regOps (f13C))[0]?).getD default, by kernel_rfl, by kernel_rfl, by kernel_rfl, by kernel_rfl⟩
      refine rt_val hJ hz hB ho hg (v := (.int .i64 k)) (fun W z => move1 hop s11.eval) (fun e he => by simp at he) ?_
      rw [hdst]
      replace s1 := s1.ne (d := 47) (u := (.int .i64 k)) (by decide)
      replace s5 := s5.ne (d := 47) (u := (.int .i64 k)) (by decide)
      replace s9 := s9.ne (d := 47) (u := (.int .i64 k)) (by decide)
      replace s11 := s11.ne (d := 47) (u := (.int .i64 k)) (by decide)
      replace s61 := s61.ne (d := 47) (u := (.int .i64 k)) (by decide)
      replace s10 := s10.ne (d := 47) (u := (.int .i64 k)) (by decide)
      have s47 : Sl (A.put (some 47) (.int .i64 k)) 47 (.int .i64 k) := Sl.same (by rw [hsz]; decide)
      replace hsz : (A.put (some 47) (.int .i64 k)).tmps.size = 101 := (put_size _ _ _).trans hsz
      replace hdf : (A.put (some 47) (.int .i64 k)).defers = [] := (put_defers _ _ _).trans hdf
      generalize A.put (some 47) (.int .i64 k) = A at *
      clear ho hop hg hdst
      obtain ⟨o, ho, hop, hg, hdst⟩ : ∃ o, (regOps (f13C))[1]? = some o ∧ o.op = .binOp .add 3 (.tmp 47) (.const (.int .i64 1)) 3 ∧ o.guard = none ∧ o.dst = some 48 := ⟨((regOps (f13C))[1]?).getD default, by kernel_rfl, by kernel_rfl, by kernel_rfl, by kernel_rfl⟩
      refine rt_val hJ hz hB ho hg (v := (.int .i64 ((k + 1 : Nat) : Int))) (fun W z => by have q := addI (w := W) hop s47.eval rfl (by omega); exact q) (fun e he => by simp at he) ?_
      rw [hdst]
      replace s1 := s1.ne (d := 48) (u := (.int .i64 ((k + 1 : Nat) : Int))) (by decide)
      replace s5 := s5.ne (d := 48) (u := (.int .i64 ((k + 1 : Nat) : Int))) (by decide)
      replace s9 := s9.ne (d := 48) (u := (.int .i64 ((k + 1 : Nat) : Int))) (by decide)
      replace s11 := s11.ne (d := 48) (u := (.int .i64 ((k + 1 : Nat) : Int))) (by decide)
      replace s61 := s61.ne (d := 48) (u := (.int .i64 ((k + 1 : Nat) : Int))) (by decide)
      replace s10 := s10.ne (d := 48) (u := (.int .i64 ((k + 1 : Nat) : Int))) (by decide)
      replace s47 := s47.ne (d := 48) (u := (.int .i64 ((k + 1 : Nat) : Int))) (by decide)
      have s48 : Sl (A.put (some 48) (.int .i64 ((k + 1 : Nat) : Int))) 48 (.int .i64 ((k + 1 : Nat) : Int)) := Sl.same (by rw [hsz]; decide)
      replace hsz : (A.put (some 48) (.int .i64 ((k + 1 : Nat) : Int))).tmps.size = 101 := (put_size _ _ _).trans hsz
      replace hdf : (A.put (some 48) (.int .i64 ((k + 1 : Nat) : Int))).defers = [] := (put_defers _ _ _).trans hdf
      generalize A.put (some 48) (.int .i64 ((k + 1 : Nat) : Int)) = A at *
      clear ho hop hg hdst
      obtain ⟨o, ho, hop, hg, hdst⟩ : ∃ o, (regOps (f13C))[2]? = some o ∧ o.op = .assign (.tmp 48) ∧ o.guard = none ∧ o.dst = some 11 := ⟨((regOps (f13C))[2]?).getD default, by kernel_rfl, by kernel_rfl, by kernel_rfl, by kernel_rfl⟩
      refine rt_val hJ hz hB ho hg (v := (.int .i64 ((k + 1 : Nat) : Int))) (fun W z => assign1 hop s48.eval) (fun e he => by simp at he) ?_
      rw [hdst]
      clear s11
      replace s1 := s1.ne (d := 11) (u := (.int .i64 ((k + 1 : Nat) : Int))) (by decide)
      replace s5 := s5.ne (d := 11) (u := (.int .i64 ((k + 1 : Nat) : Int))) (by decide)
      replace s9 := s9.ne (d := 11) (u := (.int .i64 ((k + 1 : Nat) : Int))) (by decide)
      replace s61 := s61.ne (d := 11) (u := (.int .i64 ((k + 1 : Nat) : Int))) (by decide)
      replace s10 := s10.ne (d := 11) (u := (.int .i64 ((k + 1 : Nat) : Int))) (by decide)
      replace s47 := s47.ne (d := 11) (u := (.int .i64 ((k + 1 : Nat) : Int))) (by decide)
      replace s48 := s48.ne (d := 11) (u := (.int .i64 ((k + 1 : Nat) : Int))) (by decide)
      have s11 : Sl (A.put (some 11) (.int .i64 ((k + 1 : Nat) : Int))) 11 (.int .i64 ((k + 1 : Nat) : Int)) := Sl.same (by rw [hsz]; decide)
      replace hsz : (A.put (some 11) (.int .i64 ((k + 1 : Nat) : Int))).tmps.size = 101 := (put_size _ _ _).trans hsz
      replace hdf : (A.put (some 11) (.int .i64 ((k + 1 : Nat) : Int))).defers = [] := (put_defers _ _ _).trans hdf
      generalize A.put (some 11) (.int .i64 ((k + 1 : Nat) : Int)) = A at *
      clear ho hop hg hdst
      refine rt_region_end hJ hz ?_
      refine rt_inLoop hJ hz ?_
      exact ih (k + 1) O4 A u2 U2 (by omega) (by omega) hsz hdf hsu2 hov4 hou4 hU2 s1 s5 s9 s10 s11
    rcases hsu with ⟨rfl, rfl⟩ | ⟨hk0, gu, cu, rfl⟩
    ·
      obtain ⟨o, ho, hop, hg, hdst⟩ : ∃ o, (regOps (f14C))[12]? = some o ∧ o.op = .call { callee := .builtin .append, args := #[.tmp 59, .tmp 60], argTypes := #[34, 34] } ∧ o.guard = none ∧ o.dst = some 61 := ⟨((regOps (f14C))[12]?).getD default, by kernel_rfl, by kernel_rfl, by kernel_rfl, by kernel_rfl⟩
      refine rt_val hJ hz3 hB ho hg (v := (.slice (some ⟨b3, 0, none⟩) 1 1)) (fun W z => app_none (lo := lo) (V := fun _ => V q) hop s59.eval s60.eval (SRow.of_lit hb3l z.2 hsq _ rfl)) (fun e he => by simp at he) ?_
      rw [hdst]
      replace s1 := s1.ne (d := 61) (u := (.slice (some ⟨b3, 0, none⟩) 1 1)) (by decide)
      replace s5 := s5.ne (d := 61) (u := (.slice (some ⟨b3, 0, none⟩) 1 1)) (by decide)
      replace s9 := s9.ne (d := 61) (u := (.slice (some ⟨b3, 0, none⟩) 1 1)) (by decide)
      replace s10 := s10.ne (d := 61) (u := (.slice (some ⟨b3, 0, none⟩) 1 1)) (by decide)
      replace s11 := s11.ne (d := 61) (u := (.slice (some ⟨b3, 0, none⟩) 1 1)) (by decide)
      replace s44 := s44.ne (d := 61) (u := (.slice (some ⟨b3, 0, none⟩) 1 1)) (by decide)
      replace s45 := s45.ne (d := 61) (u := (.slice (some ⟨b3, 0, none⟩) 1 1)) (by decide)
      replace s46 := s46.ne (d := 61) (u := (.slice (some ⟨b3, 0, none⟩) 1 1)) (by decide)
      replace s49 := s49.ne (d := 61) (u := (.slice (some ⟨b3, 0, none⟩) 1 1)) (by decide)
      replace s50 := s50.ne (d := 61) (u := (.slice (some ⟨b3, 0, none⟩) 1 1)) (by decide)
      replace s51 := s51.ne (d := 61) (u := (.slice (some ⟨b3, 0, none⟩) 1 1)) (by decide)
      replace s52 := s52.ne (d := 61) (u := (.slice (some ⟨b3, 0, none⟩) 1 1)) (by decide)
      replace s53 := s53.ne (d := 61) (u := (.slice (some ⟨b3, 0, none⟩) 1 1)) (by decide)
      replace s54 := s54.ne (d := 61) (u := (.slice (some ⟨b3, 0, none⟩) 1 1)) (by decide)
      replace s55 := s55.ne (d := 61) (u := (.slice (some ⟨b3, 0, none⟩) 1 1)) (by decide)
      replace s56 := s56.ne (d := 61) (u := (.slice (some ⟨b3, 0, none⟩) 1 1)) (by decide)
      replace s57 := s57.ne (d := 61) (u := (.slice (some ⟨b3, 0, none⟩) 1 1)) (by decide)
      replace s58 := s58.ne (d := 61) (u := (.slice (some ⟨b3, 0, none⟩) 1 1)) (by decide)
      replace s59 := s59.ne (d := 61) (u := (.slice (some ⟨b3, 0, none⟩) 1 1)) (by decide)
      replace s60 := s60.ne (d := 61) (u := (.slice (some ⟨b3, 0, none⟩) 1 1)) (by decide)
      have s61 : Sl (A.put (some 61) (.slice (some ⟨b3, 0, none⟩) 1 1)) 61 (.slice (some ⟨b3, 0, none⟩) 1 1) := Sl.same (by rw [hsz]; decide)
      replace hsz : (A.put (some 61) (.slice (some ⟨b3, 0, none⟩) 1 1)).tmps.size = 101 := (put_size _ _ _).trans hsz
      replace hdf : (A.put (some 61) (.slice (some ⟨b3, 0, none⟩) 1 1)).defers = [] := (put_defers _ _ _).trans hdf
      generalize A.put (some 61) (.slice (some ⟨b3, 0, none⟩) 1 1) = A at *
      clear ho hop hg hdst
      refine Rt.mono (Z' := fun W => (Keep (fun b => b < lo) W1 W ∧ ELst lo (fun b => (O2 b ∨ b = b3) ∨ b < lo) (.slice (some ⟨g, 0, none⟩) n cv) n V ls W) ∧ SRow lo W (.slice (some ⟨b3, 0, none⟩) 1 1) (0 + 1) (fun _ => V q)) ?_ fun W z => ⟨⟨z.1.1.1, z.1.1.2.mono fun b hb => hb.imp .inl id⟩, SRow.of_lit hb3l z.2 hsq _ rfl⟩
      have hU0 : ∀ j, j < 0 + 1 → V q = V ((0 + 1 - 1 - j + p) % n) := fun j hj => by
        obtain rfl : j = 0 := by omega
        exact congrArg V hq
      exact fin _ A _ (fun _ => V q) hsz hdf (.inr ⟨by omega, _, _, rfl⟩) (fun x hg => .inl (hov2 x hg)) (fun x hg => by cases hg; exact .inr rfl) hU0 s1 s5 s9 s11 s61
    ·
      have hogu : O2 gu := hou2 gu rfl
      obtain ⟨o, ho, hop, hg, hdst⟩ : ∃ o, (regOps (f14C))[12]? = some o ∧ o.op = .call { callee := .builtin .append, args := #[.tmp 59, .tmp 60], argTypes := #[34, 34] } ∧ o.guard = none ∧ o.dst = some 61 := ⟨((regOps (f14C))[12]?).getD default, by kernel_rfl, by kernel_rfl, by kernel_rfl, by kernel_rfl⟩
      refine rt_append hJ hz3 hB ho hg hop (lo := lo) (n := 1) (V := fun _ => V q) (news := (List.range k).map U) s59.eval s60.eval (fun W z => SRow.of_lit hb3l z.2 hsq _ rfl) hk0 (by simp) (fun W z j x hu => ?_) (fun x hu => ?_) (by omega) (fun W z => Nat.le_trans hlo1 z.1.1.1.size) (fun x hg => by cases hg; exact .inr rfl) (.inl (.inl hogu)) fun W z v2 T O4 r1 r2 r3 r4 r5 r6 => ?_
      · obtain ⟨hjk, rfl⟩ : j < k ∧ U j = x := by
          simp only [List.getElem?_map, Option.map_eq_some_iff] at hu
          obtain ⟨i, hi, rfl⟩ := hu
          obtain ⟨h1, h2⟩ := List.getElem?_eq_some_iff.1 hi
          simp at h1 h2
          subst h2
          exact ⟨h1, rfl⟩
        rw [Nat.zero_add]
        exact z.1.2.cell hjk
      · simp only [List.mem_map, List.mem_range] at hu
        obtain ⟨j, hj, rfl⟩ := hu
        rw [hU j hj]
        exact hVs _ (Nat.mod_lt _ (by omega))
      have hne : ∀ b, b ≠ b3 → b < W.heap.size → T.heap[b]? = W.heap[b]? := fun b h => r5 b (fun e => by cases e; exact h rfl)
      have hkeep : Keep (fun b => b < lo) W1 T := ⟨Nat.le_trans z.1.1.1.size r6, fun b o hb ho => by
        rw [hne b (by omega) (Nat.lt_of_lt_of_le hb (Nat.le_trans hlo1 z.1.1.1.size))]
        exact z.1.1.1.heap b o hb ho⟩
      have hel : ELst lo (fun b => O4 b ∨ b < lo) (.slice (some ⟨g, 0, none⟩) n cv) n V ls T := ⟨z.1.1.2.row.other fun b hb hb2 => by cases hb; exact hne g hb3g hb2, fun j hj => r4 _ _ _ ((z.1.1.2.ent j hj).mono fun b hb => hb.imp (fun h => r2 _ (.inl h)) id)⟩
      have hrow : SRow lo T v2 (k + 1) (fun j => if j < 1 then V q else ((List.range k).map U).getD (j - 1) undef) := r1.congr (Nat.add_comm _ _) fun _ _ => rfl
      have hU2 : ∀ j, j < k + 1 → (if j < 1 then V q else ((List.range k).map U).getD (j - 1) undef) = V ((k + 1 - 1 - j + p) % n) := fun j hj => by
        by_cases h0 : j < 1
        · obtain rfl : j = 0 := by omega
          rw [if_pos h0, hq]; rfl
        · rw [if_neg h0, List.getD_eq_getElem?_getD, List.getElem?_map, List.getElem?_range (by omega)]
          simp only [Option.map_some, Option.getD_some]
          rw [hU (j - 1) (by omega)]
          congr 2
          omega
      have hov4 : ∀ x, (Value.slice (some ⟨g, 0, none⟩) n cv).ownBlock = some x → O4 x := fun x hg => r2 x (.inl (hov2 x hg))
      clear r1 r2 r4 r5 r6 z hne
      rw [hdst]
      replace s1 := s1.ne (d := 61) (u := v2) (by decide)
      replace s5 := s5.ne (d := 61) (u := v2) (by decide)
      replace s9 := s9.ne (d := 61) (u := v2) (by decide)
      replace s10 := s10.ne (d := 61) (u := v2) (by decide)
      replace s11 := s11.ne (d := 61) (u := v2) (by decide)
      replace s44 := s44.ne (d := 61) (u := v2) (by decide)
      replace s45 := s45.ne (d := 61) (u := v2) (by decide)
      replace s46 := s46.ne (d := 61) (u := v2) (by decide)
      replace s49 := s49.ne (d := 61) (u := v2) (by decide)
      replace s50 := s50.ne (d := 61) (u := v2) (by decide)
      replace s51 := s51.ne (d := 61) (u := v2) (by decide)
      replace s52 := s52.ne (d := 61) (u := v2) (by decide)
      replace s53 := s53.ne (d := 61) (u := v2) (by decide)
      replace s54 := s54.ne (d := 61) (u := v2) (by decide)
      replace s55 := s55.ne (d := 61) (u := v2) (by decide)
      replace s56 := s56.ne (d := 61) (u := v2) (by decide)
      replace s57 := s57.ne (d := 61) (u := v2) (by decide)
      replace s58 := s58.ne (d := 61) (u := v2) (by decide)
      replace s59 := s59.ne (d := 61) (u := v2) (by decide)
      replace s60 := s60.ne (d := 61) (u := v2) (by decide)
      have s61 : Sl (A.put (some 61) v2) 61 v2 := Sl.same (by rw [hsz]; decide)
      replace hsz : (A.put (some 61) v2).tmps.size = 101 := (put_size _ _ _).trans hsz
      replace hdf : (A.put (some 61) v2).defers = [] := (put_defers _ _ _).trans hdf
      generalize A.put (some 61) v2 = A at *
      clear ho hop hg hdst
      exact fin O4 A v2 _ hsz hdf (hrow.sv (Nat.succ_pos k)) hov4 r3 hU2 s1 s5 s9 s11 s61 T ⟨⟨hkeep, hel⟩, hrow⟩
end
end Go.Proofs.Ytkodpijedinanaa.Sim

namespace Go.Proofs.Ytkodpijedinanaa.Sim
open Go Go.Conc
set_option linter.unusedVariables false
set_option linter.unusedSimpArgs false

/-- All lists as one, one behind the other. -/
def jn : Nat → (Nat → List Ent) → List Ent
  | 0, _ => []
  | n + 1, ls => mergeL (jn n ls) (ls n)
theorem jn_six : ∀ (n : Nat) (ls : Nat → List Ent), (∀ j, j < n → SixL (ls j)) → SixL (jn n ls)
  | 0, _, _ => SixL.nil
  | n + 1, ls, h => (jn_six n ls fun j hj => h j (by omega)).merge (h n (by omega))
theorem nil_merge {a : List Ent} (ha : MayL a) : mergeL [] a = a := by rw [mergeL_comm SixL.nil.may ha]; rfl
theorem next_six {n : Nat} {ls : Nat → List Ent} (h : ∀ j, j < n → SixL (ls j)) (j : Nat) (hj : j < (n + 1) / 2) : SixL (nextL n ls j) := by
  unfold nextL
  split
  · exact h _ (by omega)
  · exact (h _ (by omega)).merge (h _ (by omega))
theorem jn_next {n : Nat} {ls : Nat → List Ent} (h : ∀ j, j < n → SixL (ls j)) : ∀ k, k ≤ (n + 1) / 2 → jn k (nextL n ls) = jn (if 2 * k ≤ n then 2 * k else n) ls := by
  intro k
  induction k with
  | zero => intro _; rfl
  | succ k ih =>
    intro hk
    have ih := ih (by omega)
    rw [if_pos (by omega)] at ih
    show mergeL (jn k (nextL n ls)) (nextL n ls k) = _
    rw [ih]
    unfold nextL
    by_cases he : 2 * k + 1 = n
    · rw [if_pos he, if_neg (by omega), ← he]
      rfl
    · rw [if_neg he, if_pos (by omega), show 2 * (k + 1) = 2 * k + 1 + 1 from by omega]
      show _ = mergeL (mergeL (jn (2 * k) ls) (ls (2 * k))) (ls (2 * k + 1))
      rw [mergeL_assoc (jn_six _ _ fun j hj => h j (by omega)).may (h _ (by omega)).may (h _ (by omega)).may]
theorem allL_jn : ∀ (n : Nat) (ls : Nat → List Ent), (∀ j, j < n → SixL (ls j)) → allL n ls = jn n ls := by
  intro n
  induction n using Nat.strongRecOn with
  | _ n ih =>
  intro ls h
  by_cases h1 : n ≤ 1
  · rw [allL_one h1]
    by_cases h0 : n = 0
    · rw [if_pos h0, h0]; rfl
    · obtain rfl : n = 1 := by omega
      rw [if_neg h0]
      show ls 0 = mergeL [] (ls 0)
      rw [nil_merge (h 0 (by omega)).may]
  · rw [allL_more h1, ih _ (by omega) _ (next_six h), jn_next h _ (Nat.le_refl _)]
    congr 1
    split <;> omega
theorem jn_in {ls : Nat → List Ent} : ∀ (n : Nat), (∀ j, j < n → SixL (ls j)) → ∀ i, i < n → mergeL (ls i) (jn n ls) = jn n ls := by
  intro n
  induction n with
  | zero => intro _ i hi; omega
  | succ n ih =>
    intro h i hi
    have hJ := (jn_six n ls fun j hj => h j (by omega)).may
    have hn := (h n (by omega)).may
    have hi' := (h i hi).may
    show mergeL (ls i) (mergeL (jn n ls) (ls n)) = mergeL (jn n ls) (ls n)
    by_cases he : i = n
    · subst he
      rw [mergeL_comm hi' (SixL.merge (jn_six i ls fun j hj => h j (by omega)) (h i hi)).may, mergeL_absorb hJ hi']
    · rw [← mergeL_assoc hi' hJ hn, ih (fun j hj => h j (by omega)) i (by omega)]
theorem jn_two {ls : Nat → List Ent} (n : Nat) : ∀ m, (∀ j, j < n + m → SixL (ls j)) → jn (n + m) ls = mergeL (jn n ls) (jn m fun j => ls (n + j)) := by
  intro m
  induction m with
  | zero => intro _; rfl
  | succ m ih =>
    intro h
    have hJ := (jn_six n ls fun j hj => h j (by omega)).may
    have hM := (jn_six m (fun j => ls (n + j)) fun j hj => h _ (by omega)).may
    show mergeL (jn (n + m) ls) (ls (n + m)) = mergeL (jn n ls) (mergeL (jn m fun j => ls (n + j)) (ls (n + m)))
    rw [ih fun j hj => h j (by omega), mergeL_assoc hJ hM (h _ (by omega)).may]
theorem jn_sub {J : List Ent} (hJ : SixL J) {ls : Nat → List Ent} : ∀ k, (∀ j, j < k → SixL (ls j) ∧ mergeL (ls j) J = J) → mergeL (jn k ls) J = J := by
  intro k
  induction k with
  | zero => intro _; exact nil_merge hJ.may
  | succ k ih =>
    intro h
    have hk := h k (by omega)
    show mergeL (mergeL (jn k ls) (ls k)) J = J
    rw [mergeL_assoc (jn_six k ls fun j hj => (h j (by omega)).1).may hk.1.may hJ.may, hk.2, ih fun j hj => h j (by omega)]
theorem jn_congr {ls ls' : Nat → List Ent} : ∀ n, (∀ j, j < n → ls j = ls' j) → jn n ls = jn n ls' := by
  intro n
  induction n with
  | zero => intro _; rfl
  | succ n ih =>
    intro h
    show mergeL (jn n ls) (ls n) = mergeL (jn n ls') (ls' n)
    rw [ih fun j hj => h j (by omega), h n (by omega)]
/-- What the law takes for its second list of lists. -/
def twiceL (n p : Nat) (ls : Nat → List Ent) (j : Nat) : List Ent := if j < n then ls ((n - 1 - j + p) % n) else ls (j - n)
theorem twice_six {n p : Nat} {ls : Nat → List Ent} (h : ∀ j, j < n → SixL (ls j)) (j : Nat) (hj : j < n + n) : SixL (twiceL n p ls j) := by
  unfold twiceL
  split
  · exact h _ (Nat.mod_lt _ (by omega))
  · exact h _ (by omega)
/-- Order and repetition do not matter. -/
theorem all_twice {n p : Nat} {ls : Nat → List Ent} (h : ∀ j, j < n → SixL (ls j)) : allL (n + n) (twiceL n p ls) = allL n ls := by
  rw [allL_jn _ _ (twice_six h), allL_jn _ _ h, jn_two n n (twice_six h)]
  have e : jn n (fun j => twiceL n p ls (n + j)) = jn n ls := jn_congr n fun j hj => by
    unfold twiceL
    rw [if_neg (by omega), Nat.add_sub_cancel_left]
  rw [e]
  refine jn_sub (jn_six n ls h) n fun j hj => ⟨twice_six h j (by omega), ?_⟩
  unfold twiceL
  rw [if_pos hj]
  exact jn_in n h _ (Nat.mod_lt _ (by omega))
def oneL (e : Ent) (j : Nat) : List Ent := if j = 0 then [] else [e]
theorem all_one (e : Ent) : allL 2 (oneL e) = [e] := by
  rw [allL_more (by omega), allL_one (by omega)]
  rfl
end Go.Proofs.Ytkodpijedinanaa.Sim

namespace Go.Proofs.Ytkodpijedinanaa.Sim
open Go Go.Conc
set_option linter.unusedVariables false
set_option linter.unusedSimpArgs false

theorem REnt.over {K K' : Blk} {W W' : World} {v : Value} {l : List Ent} (h : REnt K W v l) (hk : Keep (fun b => K b ∧ b < W.heap.size) W W') (hK : ∀ b, K b → b < W.heap.size → K' b) : REnt K' W' v l :=
  ((h.old (K' := fun b => K b ∧ b < W.heap.size) fun b h1 h2 => ⟨h1, h2⟩).kept fun b o hb ho => hk.heap b o hb ho).mono fun b hb => hK b hb.1 hb.2
theorem SRow.over {lo : Nat} {O : Blk} {W W' : World} {v : Value} {n : Nat} {V : Nat → Value} (h : SRow lo W v n V) (hk : Keep (fun b => (O b ∨ b < lo) ∧ b < W.heap.size) W W') (hO : ∀ g, v.ownBlock = some g → O g) : SRow lo W' v n V := by
  rcases h.row with h | ⟨g, cap, cur, rfl, h1, h2, h3⟩
  · exact ⟨.inl h⟩
  · exact ⟨.inr ⟨g, cap, cur, rfl, h1, hk.heap _ _ ⟨.inl (hO g rfl), heap_lt h2⟩ h2, h3⟩⟩
theorem SRow.moved {lo : Nat} {O O' : Blk} {W : World} {v : Value} {n : Nat} {V : Nat → Value} (h : SRow lo W v n V) (hO' : ∀ b, (O b ∨ b < lo) → b < W.heap.size → O' b ∨ b < lo) (hO : ∀ g, v.ownBlock = some g → O g) : ∀ g, v.ownBlock = some g → O' g := fun g hg => by
  rcases h.row with ⟨rfl, _⟩ | ⟨g', cap, cur, rfl, h1, h2, h3⟩
  · cases hg
  · have e : g' = g := Option.some.inj hg
    rcases hO' g (.inl (hO g hg)) (by rw [← e]; exact heap_lt h2) with h | h
    · exact h
    · omega
theorem ELst.over {lo : Nat} {O O' : Blk} {W W' : World} {v : Value} {n : Nat} {V : Nat → Value} {ls : Nat → List Ent} (h : ELst lo (fun b => O b ∨ b < lo) v n V ls W) (hk : Keep (fun b => (O b ∨ b < lo) ∧ b < W.heap.size) W W') (hO' : ∀ b, (O b ∨ b < lo) → b < W.heap.size → O' b ∨ b < lo) (hO : ∀ g, v.ownBlock = some g → O g) : ELst lo (fun b => O' b ∨ b < lo) v n V ls W' :=
  ⟨h.row.over hk hO, fun j hj => (h.ent j hj).over hk hO'⟩
theorem Keep.over {lo : Nat} {O : Blk} {W0 W W' : World} (h : Keep (fun b => b < lo) W0 W) (hlo : lo ≤ W0.heap.size) (hk : Keep (fun b => (O b ∨ b < lo) ∧ b < W.heap.size) W W') : Keep (fun b => b < lo) W0 W' :=
  ⟨Nat.le_trans h.size hk.size, fun b o hb ho => hk.heap b o ⟨.inr hb, Nat.lt_of_lt_of_le hb (Nat.le_trans hlo h.size)⟩ (h.heap b o hb ho)⟩
theorem SV.parts {v : Value} {n : Nat} (h : SV v n) : ∃ a cap rl, v = .slice a n cap ∧ (0 < n → a = some ⟨rl, 0, none⟩) ∧ (n = 0 → a = none) := by
  rcases h with ⟨rfl, rfl⟩ | ⟨hn, g, cap, rfl⟩
  · exact ⟨none, 0, 0, rfl, fun h => by omega, fun _ => rfl⟩
  · exact ⟨_, cap, g, rfl, fun _ => rfl, fun h => by omega⟩
theorem SRow.look {lo : Nat} {W : World} {v : Value} {n cap rl : Nat} {a : Option Addr} {V : Nat → Value} (h : SRow lo W v n V) (e : v = .slice a n cap) (ha : 0 < n → a = some ⟨rl, 0, none⟩) (hp : 0 < n) :
    (v.ownBlock = some rl ∧ ∃ cs e z, W.heap[rl]? = some (.cells cs e z) ∧ NoRng z) ∧ ∀ j, j < n → W.cell? ⟨rl, j, none⟩ = some (V j) := by
  rw [ha hp] at e
  subst e
  exact ⟨⟨rfl, h.at.2.2⟩, fun j hj => h.cell hj⟩
/-- Main returns. -/
theorem rt_mainret {P : Program} {W0 : World} {lo n : Nat} {Post : Value → World → Prop} {jobs : Nat → Option Job} {Wg Bd : Nat} {Sh : Shd} {B : Frame} {Own : Blk} {A : Act} {k : List Item} {Z : World → Prop} (hz : Stable Own Sh Z) {fn : Func} {t : Tmp} (hin : P.inits.idxOf? B.fn = none) (hB : B.kind = .normal) (hf : P.funcs[B.fn]? = some fn) (hres : fn.results = #[.tmp t]) {v : Value} (hv : A.eval (.tmp t) = v) (hD : A.defers = []) (hp : ∀ i, jobs i = none) (hpost : ∀ W1, BaseOk W0 lo W1 → Post v W1) :
    Rt (MGo P W0 lo Post n jobs .ret Wg Bd 0 Sh) [] B (.code .ret :: k) Own A Z := rt_ret (jud_mgo P W0 lo Post n jobs (by simp) Wg Bd 0 Sh) hz fun W z => by
  refine .ret rfl hp fun W1 hr hb => ⟨v, #[], ?_, fun e he => by simp at he, hpost W1 hb⟩
  have h1 := results_tmp hres A.tmps P W1
  have h2 := events_results_tmp (P := P) (w := W1) hres A.tmps #[]
  rw [show A.tmps.getD t undef = v from hv] at h1
  simp [G, stepG, unwind, doReturn, Frame.at, hB, hD, hf, h1, h2, hin, seen_none, GStep.after]
end Go.Proofs.Ytkodpijedinanaa.Sim
