/- Texts that the claim imports, laid together: MxB. No statement of their own. -/
import Derived.Test.YtkodpijedinanaaKaq
namespace Go.Proofs.Ytkodpijedinanaa.Sim
open Go Go.Conc
set_option linter.unusedVariables false
set_option linter.unusedSimpArgs false

section
variable {Sh : Shd} {Ju : Blk → Goroutine → World → Prop} {RB : List Frame} {B : Frame} {Own : Blk} {A : Act} {k : List Item} {Z : World → Prop}
set_option maxRecDepth 100000 in
set_option maxHeartbeats 16000000 in
/-- EntryOf. -/
theorem rt_entryOf (hJ : Jud Try.prog true Sh Ju) (hz : Stable Own Sh Z) (hB : B.kind ≠ .early) {ops : Array Oper} {i : Nat} {l : List Nat} {o : Oper} (ho : ops[i]? = some o) (hg : o.guard = none) {x : Operand} {ats : Array TypeId}
    (hop : o.op = .call { callee := .value (.func 16), args := #[x], argTypes := ats }) {n : Ent} (hx : A.eval x = eAgg n) (hgl : ∀ W, Z W → Try.prog.globals.size ≤ W.heap.size)
    (hn : ∀ O, (∀ x, Own x → O x) → Rt Ju RB B (.inRegion ops l :: k) O (A.put o.dst (eAgg (EntPick n))) Z) : Rt Ju RB B (.inRegion ops (i :: l) :: k) Own A Z := fun Wc zc => by
  have hw : Region.wanted o (yielded ops A.tmps) = true := by simp [Region.wanted, hg]
  refine hJ _ _ _ (call_enter hB ho hw hop Try.func16 (by kernel_rfl) (c := cEnt) rfl fun W1 hr => .stop ?_)
  have z1 := hz _ _ hr zc
  have hgl1 := hgl W1 z1
  obtain ⟨RB', hRB'⟩ : ∃ x, x = B.at A (.inRegion ops (i :: l) :: k) :: RB := ⟨_, rfl⟩
  rw [← hRB']
  have hleave : ∀ (O : Blk) (A' : Act) (b2 : Nat) (todo : List Item), A'.defers = [] → Sl A' 2 (.pointer (some ⟨b2, 0, none⟩)) → (∀ x, Own x → O x) → O b2 → ∀ W, (Rely Own Sh W1 W ∧ W.heap[b2]? = some (.cells (eCells (EntPick n)) 42)) → Ju O (G { (base 16).at A' todo with mode := .returning } RB') W := fun O A' b2 todo hd h2 hO hOb W hW => by
    subst hRB'
    have hst : ∀ W2, Rely O Sh W W2 → stepG Try.prog true (G { (base 16).at A' todo with mode := .returning } (B.at A (.inRegion ops (i :: l) :: k) :: RB)) W2 = .go (G (B.at (A.put o.dst (eAgg (EntPick n))) (.inRegion ops l :: k)) RB) W2 (seen Try.prog 16 (reads b2 0 5)) := fun W2 hr => by
      have hh := hr.kept _ _ (.inl hOb) hW.2
      rw [stepG_leaveE (b := base 16) rfl hd Try.func16 (results_E h2 hh).1 (results_E h2 hh).2, Frame.finish_at, ho]
      rfl
    refine hJ _ _ _ (.step rfl (fun W2 hr => ⟨_, _, _, hst W2 hr, .idle _ _ _ fun e he => ?_, rfl⟩) fun W2 hr g' W' es he => ?_)
    · have he := mem_seen he
      simp [reads, List.range_succ] at he
      rcases he with rfl | rfl | rfl | rfl | rfl <;> exact .cell _ _ (.inl hOb)
    · rw [hst W2 hr] at he
      simp only [GStep.go.injEq] at he
      obtain ⟨rfl, rfl, rfl⟩ := he
      rw [grow_self]
      exact .stop (hn O hO W2 (hz W1 W2 (hW.1.own hO hr) z1))
  clear hRB' hn ho hw hop hg hr zc z1 hgl hz
  have hB : (base 16).kind ≠ .early := by simp [base]
  have hnt : Try.f16.ntmps = 24 := by kernel_rfl
  obtain ⟨A0, hA0⟩ : ∃ A0 : Act, A0 = { tmps := #[x].map A.eval ++ Array.replicate (Try.f16.ntmps - (#[x].map A.eval).size) undef, defers := [] } := ⟨_, rfl⟩
  rw [← hA0]
  have s0 : Sl A0 0 (eAgg n) := by subst hA0; exact sl_app (by simp [hx])
  have hsz : A0.tmps.size = 24 := by subst hA0; simp [hnt]
  have hdf : A0.defers = [] := by rw [hA0]
  clear hA0 hx
  generalize A0 = A at *
  have hz : Stable Own Sh (Rely Own Sh W1) := fun W W' hr z => z.trans hr
  have hmix : Try.prog.follows .mixedOrders = true := by kernel_rfl
  refine (show Rt Ju RB' (base 16) [.code cEnt] Own A (Rely Own Sh W1) from ?_) W1 (.refl _ _ _)
  rw [show (Item.code cEnt : Item) = _ from congrArg Item.code cEnt_eq]
  refine rt_seq hJ hz ?_
  rw [show x0E = .region 0 (regOps (x0E)) false from by kernel_rfl]
  refine rt_region hJ hz ?_
  rw [show List.range (regOps (x0E)).size = [0, 1] from by kernel_rfl]
  obtain ⟨o, ho, hop, hg, hdst⟩ : ∃ o, (regOps (x0E))[0]? = some o ∧ o.op = .box 53 (.tmp 0) ∧ o.guard = none ∧ o.dst = some 1 := ⟨((regOps (x0E))[0]?).getD default, by kernel_rfl, by kernel_rfl, by kernel_rfl, by kernel_rfl⟩
  refine rt_allocv hJ hz hB ho hg (ob := .cells (eCells n) 53) (fun b => .pointer (some ⟨b, 0, none⟩)) (fun W z => boxN hop s0.eval) fun b1 hb1 => ?_
  rw [hdst]
  replace s0 := s0.ne (d := 1) (u := (.pointer (some ⟨b1, 0, none⟩))) (by decide)
  have s1 : Sl (A.put (some 1) (.pointer (some ⟨b1, 0, none⟩))) 1 (.pointer (some ⟨b1, 0, none⟩)) := Sl.same (by rw [hsz]; decide)
  replace hsz : (A.put (some 1) (.pointer (some ⟨b1, 0, none⟩))).tmps.size = 24 := (put_size _ _ _).trans hsz
  replace hdf : (A.put (some 1) (.pointer (some ⟨b1, 0, none⟩))).defers = [] := (put_defers _ _ _).trans hdf
  generalize A.put (some 1) (.pointer (some ⟨b1, 0, none⟩)) = A at *
  clear ho hop hg hdst
  have hf1 : W1.heap.size ≤ b1 := by obtain ⟨W, z, rfl⟩ := hb1; exact z.size
  clear hb1
  have hz1 : Stable (fun x => Own x ∨ x = b1) Sh fun W => Rely Own Sh W1 W ∧ W.heap[b1]? = some (.cells (eCells n) 53) := Stable.and (hz.more fun x h => .inl h) (Stable.heap (.inl (.inr rfl)))
  obtain ⟨o, ho, hop, hg, hdst⟩ : ∃ o, (regOps (x0E))[1]? = some o ∧ o.op = .alloc 42 ∧ o.guard = none ∧ o.dst = some 2 := ⟨((regOps (x0E))[1]?).getD default, by kernel_rfl, by kernel_rfl, by kernel_rfl, by kernel_rfl⟩
  refine rt_allocv hJ hz1 hB ho hg (ob := .cells (eCells zeroE) 42) (fun b => .pointer (some ⟨b, 0, none⟩)) (fun W z => allocE hop) fun b2 hb2 => ?_
  rw [hdst]
  replace s0 := s0.ne (d := 2) (u := (.pointer (some ⟨b2, 0, none⟩))) (by decide)
  replace s1 := s1.ne (d := 2) (u := (.pointer (some ⟨b2, 0, none⟩))) (by decide)
  have s2 : Sl (A.put (some 2) (.pointer (some ⟨b2, 0, none⟩))) 2 (.pointer (some ⟨b2, 0, none⟩)) := Sl.same (by rw [hsz]; decide)
  replace hsz : (A.put (some 2) (.pointer (some ⟨b2, 0, none⟩))).tmps.size = 24 := (put_size _ _ _).trans hsz
  replace hdf : (A.put (some 2) (.pointer (some ⟨b2, 0, none⟩))).defers = [] := (put_defers _ _ _).trans hdf
  generalize A.put (some 2) (.pointer (some ⟨b2, 0, none⟩)) = A at *
  clear ho hop hg hdst
  have hf2 : W1.heap.size ≤ b2 := by obtain ⟨W, z, rfl⟩ := hb2; exact z.1.size
  have hne : b1 ≠ b2 := by obtain ⟨W, z, rfl⟩ := hb2; have := heap_lt z.2; omega
  clear hb2
  have hz2 : Stable (fun x => (Own x ∨ x = b1) ∨ x = b2) Sh fun W => (Rely Own Sh W1 W ∧ W.heap[b1]? = some (.cells (eCells n) 53)) ∧ W.heap[b2]? = some (.cells (eCells zeroE) 42) := Stable.and (hz1.more fun x h => .inl h) (Stable.heap (.inl (.inr rfl)))
  refine rt_region_end hJ hz2 ?_
  refine rt_seq hJ hz2 ?_
  have hops : opsE.size = 14 := by kernel_rfl
  change Rt Ju RB' (base 16) (.code (.region 1 opsE true) :: _) _ A _
  refine rt_draw hJ hmix hz2 (I := fun L O A W => ∃ b3, ES n W1 Own Sh b1 b2 L b3 O A W) (fun L i l h1 h2 h3 nx => ES.step hJ hB L i l h1 h2 h3 nx) (fun L hL O A W ⟨b3, h⟩ => ?_) (fun L O A W ⟨b3, h⟩ => h.lsz.trans hops.symm) (fun W d z => ⟨0, ?_⟩)
  · have hall := listed_all (h.lsz.trans hops.symm) (fun j hj d hd => by
      have D : ((List.range opsE.size).all fun j => (depsOf opsE j).all fun d => decide (d < j)) = true := by kernel_rfl
      have := List.all_eq_true.1 (List.all_eq_true.1 D j (List.mem_range.2 hj)) d hd
      simpa using this) hL
    rw [hops] at hall
    obtain ⟨s3, q2, q3, q4, q5, q6⟩ := h.al (hall 12 (by omega))
    rw [if_pos (hall 13 (by omega))] at q6
    have s1 := h.s1
    have s2 := h.s2
    have hsz := h.sz
    have hdf := h.df
    have hO := h.own
    have o1 := h.o1
    have o2 := h.o2
    refine (show Rt Ju RB' (base 16) (.inRegion opsE [] :: .code (.seq (.seq x2E (.cond (.tmp 18) x3E .skip)) (.seq x4E .ret)) :: []) O A (fun W => ((Rely Own Sh W1 W ∧ W.heap[b1]? = some (.cells (eCells n) 53)) ∧ W.heap[b2]? = some (.cells (eCells zeroE) 42)) ∧ W.heap[b3]? = some (.cells (eCells (midE n)) 42)) from ?_) W ⟨⟨⟨h.rel, h.h1⟩, h.h2⟩, q6⟩
    have hz3 : Stable O Sh fun W => ((Rely Own Sh W1 W ∧ W.heap[b1]? = some (.cells (eCells n) 53)) ∧ W.heap[b2]? = some (.cells (eCells zeroE) 42)) ∧ W.heap[b3]? = some (.cells (eCells (midE n)) 42) := Stable.and (Stable.and (Stable.and (fun W W' hr z => z.own hO hr) (Stable.heap (.inl o1))) (Stable.heap (.inl o2))) (Stable.heap (.inl q2))
    have hz4 : ∀ O' : Blk, (∀ x, O x → O' x) → Stable O' Sh fun W => ((Rely Own Sh W1 W ∧ W.heap[b1]? = some (.cells (eCells n) 53)) ∧ W.heap[b2]? = some (.cells (eCells zeroE) 42)) ∧ W.heap[b3]? = some (.cells (eCells (EntPick n)) 42) := fun O' hO' => Stable.and (Stable.and (Stable.and (fun W W' hr z => z.own (fun x hx => hO' x (hO x hx)) hr) (Stable.heap (.inl (hO' _ o1)))) (Stable.heap (.inl (hO' _ o2)))) (Stable.heap (.inl (hO' _ q2)))
    have tail : ∀ (O' : Blk) (A : Act), (∀ x, O x → O' x) → A.tmps.size = 24 → A.defers = [] → Sl A 1 (.pointer (some ⟨b1, 0, none⟩)) → Sl A 2 (.pointer (some ⟨b2, 0, none⟩)) → Sl A 3 (.pointer (some ⟨b3, 0, none⟩)) → Rt Ju RB' (base 16) [.code (.seq x4E .ret)] O' A (fun W => ((Rely Own Sh W1 W ∧ W.heap[b1]? = some (.cells (eCells n) 53)) ∧ W.heap[b2]? = some (.cells (eCells zeroE) 42)) ∧ W.heap[b3]? = some (.cells (eCells (EntPick n)) 42)) := fun O' A hO' hsz hdf s1 s2 s3 => by
      have hz := hz4 O' hO'
      refine rt_seq hJ hz ?_
      rw [show x4E = .region 4 (regOps (x4E)) false from by kernel_rfl]
      refine rt_region hJ hz ?_
      rw [show List.range (regOps (x4E)).size = [0, 1] from by kernel_rfl]
      obtain ⟨o, ho, hop, hg, hdst⟩ : ∃ o, (regOps (x4E))[0]? = some o ∧ o.op = .load 42 (.tmp 3) ∧ o.guard = none ∧ o.dst = some 23 := ⟨((regOps (x4E))[0]?).getD default, by kernel_rfl, by kernel_rfl, by kernel_rfl, by kernel_rfl⟩
      refine rt_val hJ hz hB ho hg (v := (eAgg (EntPick n))) (fun W z => loadE hop s3.eval (by simp [World.cell?, z.2, eCells]) (by simp [World.cell?, z.2, eCells]) (by simp [World.cell?, z.2, eCells]) (by simp [World.cell?, z.2, eCells]) (by simp [World.cell?, z.2, eCells])) (fun e he => by simp [reads, List.range_succ] at he; rcases he with rfl | rfl | rfl | rfl | rfl <;> exact .cell _ _ (.inl (hO' _ q2))) ?_
      rw [hdst]
      replace s1 := s1.ne (d := 23) (u := (eAgg (EntPick n))) (by decide)
      replace s2 := s2.ne (d := 23) (u := (eAgg (EntPick n))) (by decide)
      replace s3 := s3.ne (d := 23) (u := (eAgg (EntPick n))) (by decide)
      have s23 : Sl (A.put (some 23) (eAgg (EntPick n))) 23 (eAgg (EntPick n)) := Sl.same (by rw [hsz]; decide)
      replace hsz : (A.put (some 23) (eAgg (EntPick n))).tmps.size = 24 := (put_size _ _ _).trans hsz
      replace hdf : (A.put (some 23) (eAgg (EntPick n))).defers = [] := (put_defers _ _ _).trans hdf
      generalize A.put (some 23) (eAgg (EntPick n)) = A at *
      clear ho hop hg hdst
      obtain ⟨o, ho, hop, hg, hdst⟩ : ∃ o, (regOps (x4E))[1]? = some o ∧ o.op = .store 42 (.tmp 2) (.tmp 23) ∧ o.guard = none ∧ o.dst = none := ⟨((regOps (x4E))[1]?).getD default, by kernel_rfl, by kernel_rfl, by kernel_rfl, by kernel_rfl⟩
      refine ju_op (P := Try.prog) hJ hz hB ho hg (v := fun _ => undef) (T := fun W => put5 W b2 (EntPick n)) (fun W z => .inr ⟨rfl, (storeE hop s2.eval s23.eval z.1.2).1⟩) (fun W z => by rw [(storeE hop s2.eval s23.eval z.1.2).2]; exact did_put5 (hO' _ o2) z.1.2) (fun W z => ?_)
      rw [hdst]
      refine (show Rt Ju RB' (base 16) (.inRegion (regOps x4E) [] :: .code .ret :: []) (Grow O' W (put5 W b2 (EntPick n))) A (fun W => Rely Own Sh W1 W ∧ W.heap[b2]? = some (.cells (eCells (EntPick n)) 42)) from ?_) _ ⟨z.1.1.1.put5 hf2, put5_at z.1.2⟩
      have hO2 : ∀ x, Own x → Grow O' W (put5 W b2 (EntPick n)) x := fun x hx => .inl (hO' _ (hO x hx))
      have hb2 : Grow O' W (put5 W b2 (EntPick n)) b2 := .inl (hO' _ o2)
      generalize Grow O' W (put5 W b2 (EntPick n)) = O2 at *
      have hz5 : Stable O2 Sh fun W => Rely Own Sh W1 W ∧ W.heap[b2]? = some (.cells (eCells (EntPick n)) 42) := Stable.and (fun W W' hr z => z.own hO2 hr) (Stable.heap (.inl hb2))
      refine rt_region_end hJ hz5 ?_
      refine rt_ret hJ hz5 fun W z => hleave O2 A b2 _ hdf s2 hO2 hb2 W z
    refine rt_region_end hJ hz3 ?_
    refine rt_seq hJ hz3 ?_
    refine rt_seq hJ hz3 ?_
    rw [show x2E = .region 2 (regOps (x2E)) false from by kernel_rfl]
    refine rt_region hJ hz3 ?_
    rw [show List.range (regOps (x2E)).size = [0, 1, 2] from by kernel_rfl]
    obtain ⟨o, ho, hop, hg, hdst⟩ : ∃ o, (regOps (x2E))[0]? = some o ∧ o.op = .fieldAddr 53 (.tmp 1) 4 ∧ o.guard = none ∧ o.dst = some 16 := ⟨((regOps (x2E))[0]?).getD default, by kernel_rfl, by kernel_rfl, by kernel_rfl, by kernel_rfl⟩
    refine rt_val hJ hz3 hB ho hg (v := (.pointer (some ⟨b1, 4, none⟩))) (fun W z => by have q := fieldN (w := W) 4 (by omega) hop s1.eval; exact q) (fun e he => by simp at he) ?_
    rw [hdst]
    replace s1 := s1.ne (d := 16) (u := (.pointer (some ⟨b1, 4, none⟩))) (by decide)
    replace s2 := s2.ne (d := 16) (u := (.pointer (some ⟨b1, 4, none⟩))) (by decide)
    replace s3 := s3.ne (d := 16) (u := (.pointer (some ⟨b1, 4, none⟩))) (by decide)
    have s16 : Sl (A.put (some 16) (.pointer (some ⟨b1, 4, none⟩))) 16 (.pointer (some ⟨b1, 4, none⟩)) := Sl.same (by rw [hsz]; decide)
    replace hsz : (A.put (some 16) (.pointer (some ⟨b1, 4, none⟩))).tmps.size = 24 := (put_size _ _ _).trans hsz
    replace hdf : (A.put (some 16) (.pointer (some ⟨b1, 4, none⟩))).defers = [] := (put_defers _ _ _).trans hdf
    generalize A.put (some 16) (.pointer (some ⟨b1, 4, none⟩)) = A at *
    clear ho hop hg hdst
    obtain ⟨o, ho, hop, hg, hdst⟩ : ∃ o, (regOps (x2E))[1]? = some o ∧ o.op = .load 4 (.tmp 16) ∧ o.guard = none ∧ o.dst = some 17 := ⟨((regOps (x2E))[1]?).getD default, by kernel_rfl, by kernel_rfl, by kernel_rfl, by kernel_rfl⟩
    refine rt_val hJ hz3 hB ho hg (v := (.bool n.g)) (fun W z => load4 (v := .bool n.g) hop s16.eval (by simp [World.cell?, z.1.1.2, eCells])) (fun e he => by simp at he; subst he; exact .cell _ _ (.inl o1)) ?_
    rw [hdst]
    replace s1 := s1.ne (d := 17) (u := (.bool n.g)) (by decide)
    replace s2 := s2.ne (d := 17) (u := (.bool n.g)) (by decide)
    replace s3 := s3.ne (d := 17) (u := (.bool n.g)) (by decide)
    replace s16 := s16.ne (d := 17) (u := (.bool n.g)) (by decide)
    have s17 : Sl (A.put (some 17) (.bool n.g)) 17 (.bool n.g) := Sl.same (by rw [hsz]; decide)
    replace hsz : (A.put (some 17) (.bool n.g)).tmps.size = 24 := (put_size _ _ _).trans hsz
    replace hdf : (A.put (some 17) (.bool n.g)).defers = [] := (put_defers _ _ _).trans hdf
    generalize A.put (some 17) (.bool n.g) = A at *
    clear ho hop hg hdst
    obtain ⟨o, ho, hop, hg, hdst⟩ : ∃ o, (regOps (x2E))[2]? = some o ∧ o.op = .unOp .not 4 (.tmp 17) ∧ o.guard = none ∧ o.dst = some 18 := ⟨((regOps (x2E))[2]?).getD default, by kernel_rfl, by kernel_rfl, by kernel_rfl, by kernel_rfl⟩
    refine rt_val hJ hz3 hB ho hg (v := (.bool (!n.g))) (fun W z => notB hop s17.eval) (fun e he => by simp at he) ?_
    rw [hdst]
    replace s1 := s1.ne (d := 18) (u := (.bool (!n.g))) (by decide)
    replace s2 := s2.ne (d := 18) (u := (.bool (!n.g))) (by decide)
    replace s3 := s3.ne (d := 18) (u := (.bool (!n.g))) (by decide)
    replace s16 := s16.ne (d := 18) (u := (.bool (!n.g))) (by decide)
    replace s17 := s17.ne (d := 18) (u := (.bool (!n.g))) (by decide)
    have s18 : Sl (A.put (some 18) (.bool (!n.g))) 18 (.bool (!n.g)) := Sl.same (by rw [hsz]; decide)
    replace hsz : (A.put (some 18) (.bool (!n.g))).tmps.size = 24 := (put_size _ _ _).trans hsz
    replace hdf : (A.put (some 18) (.bool (!n.g))).defers = [] := (put_defers _ _ _).trans hdf
    generalize A.put (some 18) (.bool (!n.g)) = A at *
    clear ho hop hg hdst
    refine rt_region_end hJ hz3 ?_
    refine rt_cond hJ hz3 s18.eval ?_
    cases hgn : n.g with
    | true =>
      simp only [Bool.not_true, Bool.false_eq_true, if_false]
      refine rt_skip hJ hz3 ?_
      refine Rt.mono (tail O A (fun _ h => h) hsz hdf s1 s2 s3) fun W z => ⟨z.1, ?_⟩
      rw [show EntPick n = midE n from by unfold EntPick midE; simp [hgn]]; exact z.2
    | false =>
      simp only [Bool.not_false, if_true]
      rw [show x3E = .region 3 (regOps (x3E)) false from by kernel_rfl]
      refine rt_region hJ hz3 ?_
      rw [show List.range (regOps (x3E)).size = [0, 1, 2, 3, 4] from by kernel_rfl]
      obtain ⟨o, ho, hop, hg, hdst⟩ : ∃ o, (regOps (x3E))[0]? = some o ∧ o.op = .fieldAddr 53 (.tmp 1) 1 ∧ o.guard = none ∧ o.dst = some 19 := ⟨((regOps (x3E))[0]?).getD default, by kernel_rfl, by kernel_rfl, by kernel_rfl, by kernel_rfl⟩
      refine rt_val hJ hz3 hB ho hg (v := (.pointer (some ⟨b1, 1, none⟩))) (fun W z => by have q := fieldN (w := W) 1 (by omega) hop s1.eval; exact q) (fun e he => by simp at he) ?_
      rw [hdst]
      replace s1 := s1.ne (d := 19) (u := (.pointer (some ⟨b1, 1, none⟩))) (by decide)
      replace s2 := s2.ne (d := 19) (u := (.pointer (some ⟨b1, 1, none⟩))) (by decide)
      replace s3 := s3.ne (d := 19) (u := (.pointer (some ⟨b1, 1, none⟩))) (by decide)
      replace s16 := s16.ne (d := 19) (u := (.pointer (some ⟨b1, 1, none⟩))) (by decide)
      replace s17 := s17.ne (d := 19) (u := (.pointer (some ⟨b1, 1, none⟩))) (by decide)
      replace s18 := s18.ne (d := 19) (u := (.pointer (some ⟨b1, 1, none⟩))) (by decide)
      have s19 : Sl (A.put (some 19) (.pointer (some ⟨b1, 1, none⟩))) 19 (.pointer (some ⟨b1, 1, none⟩)) := Sl.same (by rw [hsz]; decide)
      replace hsz : (A.put (some 19) (.pointer (some ⟨b1, 1, none⟩))).tmps.size = 24 := (put_size _ _ _).trans hsz
      replace hdf : (A.put (some 19) (.pointer (some ⟨b1, 1, none⟩))).defers = [] := (put_defers _ _ _).trans hdf
      generalize A.put (some 19) (.pointer (some ⟨b1, 1, none⟩)) = A at *
      clear ho hop hg hdst
      obtain ⟨o, ho, hop, hg, hdst⟩ : ∃ o, (regOps (x3E))[1]? = some o ∧ o.op = .load 3 (.tmp 19) ∧ o.guard = none ∧ o.dst = some 20 := ⟨((regOps (x3E))[1]?).getD default, by kernel_rfl, by kernel_rfl, by kernel_rfl, by kernel_rfl⟩
      refine rt_val hJ hz3 hB ho hg (v := (.int .i64 n.v)) (fun W z => load3 (v := .int .i64 n.v) hop s19.eval (by simp [World.cell?, z.1.1.2, eCells])) (fun e he => by simp at he; subst he; exact .cell _ _ (.inl o1)) ?_
      rw [hdst]
      replace s1 := s1.ne (d := 20) (u := (.int .i64 n.v)) (by decide)
      replace s2 := s2.ne (d := 20) (u := (.int .i64 n.v)) (by decide)
      replace s3 := s3.ne (d := 20) (u := (.int .i64 n.v)) (by decide)
      replace s16 := s16.ne (d := 20) (u := (.int .i64 n.v)) (by decide)
      replace s17 := s17.ne (d := 20) (u := (.int .i64 n.v)) (by decide)
      replace s18 := s18.ne (d := 20) (u := (.int .i64 n.v)) (by decide)
      replace s19 := s19.ne (d := 20) (u := (.int .i64 n.v)) (by decide)
      have s20 : Sl (A.put (some 20) (.int .i64 n.v)) 20 (.int .i64 n.v) := Sl.same (by rw [hsz]; decide)
      replace hsz : (A.put (some 20) (.int .i64 n.v)).tmps.size = 24 := (put_size _ _ _).trans hsz
      replace hdf : (A.put (some 20) (.int .i64 n.v)).defers = [] := (put_defers _ _ _).trans hdf
      generalize A.put (some 20) (.int .i64 n.v) = A at *
      clear ho hop hg hdst
      obtain ⟨o, ho, hop, hg, hdst⟩ : ∃ o, (regOps (x3E))[2]? = some o ∧ o.op = .call { callee := .value (.func 5), args := #[.tmp 20, .const (.int .i64 3)], argTypes := #[3, 3] } ∧ o.guard = none ∧ o.dst = some 21 := ⟨((regOps (x3E))[2]?).getD default, by kernel_rfl, by kernel_rfl, by kernel_rfl, by kernel_rfl⟩
      refine rt_picked hJ hz3 hB ho hg hop (a := n.v) (n := 3) s20.eval rfl (by decide) (by decide) (fun W z => Nat.le_trans hgl1 z.1.1.1.size) fun O' hO' => ?_
      rw [hdst]
      replace s1 := s1.ne (d := 21) (u := (.int .i64 (pick n.v 3))) (by decide)
      replace s2 := s2.ne (d := 21) (u := (.int .i64 (pick n.v 3))) (by decide)
      replace s3 := s3.ne (d := 21) (u := (.int .i64 (pick n.v 3))) (by decide)
      replace s16 := s16.ne (d := 21) (u := (.int .i64 (pick n.v 3))) (by decide)
      replace s17 := s17.ne (d := 21) (u := (.int .i64 (pick n.v 3))) (by decide)
      replace s18 := s18.ne (d := 21) (u := (.int .i64 (pick n.v 3))) (by decide)
      replace s19 := s19.ne (d := 21) (u := (.int .i64 (pick n.v 3))) (by decide)
      replace s20 := s20.ne (d := 21) (u := (.int .i64 (pick n.v 3))) (by decide)
      have s21 : Sl (A.put (some 21) (.int .i64 (pick n.v 3))) 21 (.int .i64 (pick n.v 3)) := Sl.same (by rw [hsz]; decide)
      replace hsz : (A.put (some 21) (.int .i64 (pick n.v 3))).tmps.size = 24 := (put_size _ _ _).trans hsz
      replace hdf : (A.put (some 21) (.int .i64 (pick n.v 3))).defers = [] := (put_defers _ _ _).trans hdf
      generalize A.put (some 21) (.int .i64 (pick n.v 3)) = A at *
      clear ho hop hg hdst
      have hz5 : Stable O' Sh fun W => ((Rely Own Sh W1 W ∧ W.heap[b1]? = some (.cells (eCells n) 53)) ∧ W.heap[b2]? = some (.cells (eCells zeroE) 42)) ∧ W.heap[b3]? = some (.cells (eCells (midE n)) 42) := hz3.more hO'
      obtain ⟨o, ho, hop, hg, hdst⟩ : ∃ o, (regOps (x3E))[3]? = some o ∧ o.op = .fieldAddr 42 (.tmp 3) 1 ∧ o.guard = none ∧ o.dst = some 22 := ⟨((regOps (x3E))[3]?).getD default, by kernel_rfl, by kernel_rfl, by kernel_rfl, by kernel_rfl⟩
      refine rt_val hJ hz5 hB ho hg (v := (.pointer (some ⟨b3, 1, none⟩))) (fun W z => by have q := fieldE (w := W) 1 (by omega) hop s3.eval; exact q) (fun e he => by simp at he) ?_
      rw [hdst]
      replace s1 := s1.ne (d := 22) (u := (.pointer (some ⟨b3, 1, none⟩))) (by decide)
      replace s2 := s2.ne (d := 22) (u := (.pointer (some ⟨b3, 1, none⟩))) (by decide)
      replace s3 := s3.ne (d := 22) (u := (.pointer (some ⟨b3, 1, none⟩))) (by decide)
      replace s16 := s16.ne (d := 22) (u := (.pointer (some ⟨b3, 1, none⟩))) (by decide)
      replace s17 := s17.ne (d := 22) (u := (.pointer (some ⟨b3, 1, none⟩))) (by decide)
      replace s18 := s18.ne (d := 22) (u := (.pointer (some ⟨b3, 1, none⟩))) (by decide)
      replace s19 := s19.ne (d := 22) (u := (.pointer (some ⟨b3, 1, none⟩))) (by decide)
      replace s20 := s20.ne (d := 22) (u := (.pointer (some ⟨b3, 1, none⟩))) (by decide)
      replace s21 := s21.ne (d := 22) (u := (.pointer (some ⟨b3, 1, none⟩))) (by decide)
      have s22 : Sl (A.put (some 22) (.pointer (some ⟨b3, 1, none⟩))) 22 (.pointer (some ⟨b3, 1, none⟩)) := Sl.same (by rw [hsz]; decide)
      replace hsz : (A.put (some 22) (.pointer (some ⟨b3, 1, none⟩))).tmps.size = 24 := (put_size _ _ _).trans hsz
      replace hdf : (A.put (some 22) (.pointer (some ⟨b3, 1, none⟩))).defers = [] := (put_defers _ _ _).trans hdf
      generalize A.put (some 22) (.pointer (some ⟨b3, 1, none⟩)) = A at *
      clear ho hop hg hdst
      obtain ⟨o, ho, hop, hg, hdst⟩ : ∃ o, (regOps (x3E))[4]? = some o ∧ o.op = .store 3 (.tmp 22) (.tmp 21) ∧ o.guard = none ∧ o.dst = none := ⟨((regOps (x3E))[4]?).getD default, by kernel_rfl, by kernel_rfl, by kernel_rfl, by kernel_rfl⟩
      refine rt_store hJ hz5 hB ho hg (ad := ⟨b3, 1, none⟩) (v := .int .i64 (pick n.v 3)) (Z' := fun W => ((Rely Own Sh W1 W ∧ W.heap[b1]? = some (.cells (eCells n) 53)) ∧ W.heap[b2]? = some (.cells (eCells zeroE) 42)) ∧ W.heap[b3]? = some (.cells (eCells (EntPick n)) 42)) (fun W z => store3 hop s22.eval s21.eval (u := .int .i64 0) (by simp [World.cell?, z.2, eCells, midE]) (by simp [World.frozen?, z.2])) (hO' _ q2) (fun W z => ⟨⟨⟨z.1.1.1.set q5, by rw [heap_setCell_other _ _ _ _ (fun e => q3 e.symm)]; exact z.1.1.2⟩, by rw [heap_setCell_other _ _ _ _ (fun e => q4 e.symm)]; exact z.1.2⟩, ?_⟩) ?_
      · rw [set_row _ z.2, show EntPick n = { midE n with v := pick n.v 3 } from by unfold EntPick midE; simp [hgn]]; rfl
      rw [hdst]
      change Rt _ _ _ _ _ A _
      clear ho hop hg hdst hz5
      refine rt_region_end hJ (hz4 O' hO') ?_
      exact tail O' A hO' hsz hdf s1 s2 s3
  · exact { lsz := by simp; kernel_rfl, sz := hsz, df := hdf, s1 := s1, s2 := s2, own := fun x hx => .inl (.inl hx), o1 := .inl (.inr rfl), o2 := .inr rfl, f1 := hf1, f2 := hf2, gl := hgl1, h1 := z.1.2, h2 := z.2, rel := z.1.1.trans (rely_at _ _ W d), sl := fun j _ hl => (repl_no hl).elim, d13 := fun hl => (repl_no hl).elim, al := fun hl => (repl_no hl).elim }
end
end Go.Proofs.Ytkodpijedinanaa.Sim
