/- PackFixed: the walk. -/
import Derived.Test.YtkeefpeffeoakaaPackBackL
import Derived.Test.YtkeefpeffeoakaaApp
import Derived.Laws.CopyOwn
namespace Go.Proofs.Ytkeefpeffeoakaa.packFixed
open Go.ChangeShapes Go.WideShapes Go.ChangeAt Go.RowKit
set_option linter.unusedVariables false

theorem elU8 : Elem Try.prog 5 1 1 (.int .u8 0) := .of (by kernel_rfl) rfl (by decide)
theorem u8s_one (l : List Nat) : (u8s l).all Value.oneCell' = true := by
  rw [List.all_eq_true]; intro v hv; obtain ⟨z, _, rfl⟩ := List.mem_map.1 hv; rfl
theorem has_row {w : World} {g n sz : Nat} {cs : List Value} {e : TypeId} {r : Nat × Nat} (hh : w.heap[g]? = some (.cells cs.toArray e r)) (hl : cs.length = n * sz) (hn : n ≤ maxLen) : Has w sz (.slice (some ⟨g, 0, none⟩) n n) n cs := by
  refine ⟨⟨hl, fun n cap h => by simp at h⟩, _, n, rfl, Nat.le_refl _, hn, fun _ => ⟨_, 0, rfl, fun j u hu => ?_⟩⟩
  rw [cell_of_row w _ _ _ _ _ hh]; simpa using hu
theorem has_blk {wx wp : World} {m n sz : Nat} {cs : List Value} {e : TypeId} (hnew : wx.heap[wp.heap.size]? = some (.cells cs.toArray e (0, 0))) (hm : m = wp.heap.size) (hl : cs.length = n * sz) (hn : n ≤ maxLen) :
    Has wx sz (.slice (some ⟨m, 0, none⟩) n n) n cs := by
  subst hm
  refine ⟨⟨hl, fun n cap h => by simp at h⟩, _, n, rfl, Nat.le_refl _, hn, fun _ => ⟨_, 0, rfl, fun j u hu => ?_⟩⟩
  rw [cell_of_row wx _ _ _ _ _ hnew]; simpa using hu
set_option maxRecDepth 100000 in
theorem make_u8 (X : World) (n : Nat) (h : n ≤ 1000) : (Instr.makeSlice 32 (.int .i64 (n : Int)) (.int .i64 (n : Int))).run Try.prog X = .ok (.slice (some ⟨X.heap.size, 0, none⟩) n n) (X.alloc (.cells (u8s (List.replicate n 0)).toArray 5)) := by
  rw [make_bytes X n h]
  congr 3
  apply congrArg
  apply List.ext_getElem
  · simp
  · intro j h1 h2; simp [byteOf, u8s]
/-- The bytes that are unpacked. -/
def ownB (n : Nat) (bl : List Nat) : List Nat := bl.take n ++ List.replicate (n - min n bl.length) 0
theorem ownB_length (n : Nat) (bl : List Nat) : (ownB n bl).length = n := by simp [ownB]; omega
theorem ownB_lt (n : Nat) (bl : List Nat) (h : ∀ b ∈ bl, b < 256) : ∀ b ∈ ownB n bl, b < 256 := by
  intro b hb
  rcases List.mem_append.1 hb with h' | h'
  · exact h b (List.mem_of_mem_take h')
  · rw [List.mem_replicate] at h'; omega
theorem ownB_splice (n : Nat) (bl : List Nat) : splice (u8s (List.replicate n 0)) 0 (u8s (bl.take n)) = u8s (ownB n bl) := by
  unfold splice ownB
  rw [List.take_zero, List.nil_append, u8s_length, Nat.zero_add]
  have e : (u8s (List.replicate n 0)).drop (bl.take n).length = u8s (List.replicate (n - min n bl.length) 0) := by
    simp [u8s, List.length_take]
  rw [e]
  simp [u8s]
theorem zip_take (ws vs : List Int) (k : Nat) (h1 : k < ws.length) (h2 : k < vs.length) : flds ((ws.zip vs).take k) ++ [.int .i64 ws[k], .int .i64 vs[k]] = flds ((ws.zip vs).take (k + 1)) := by
  rw [take_snoc _ _ (by simp; omega)]
  rw [← flds_snoc]
  simp
theorem zip_fst (ws vs : List Int) (h : ws.length = vs.length) : (ws.zip vs).length = ws.length := by simp; omega
set_option maxRecDepth 100000 in
set_option maxHeartbeats 4000000 in
theorem walk (w : World) (v0 : Value) (z0 : List Int) (A0 : Has w 1 v0 z0.length (ints z0) ∧ ∀ z ∈ z0, -9223372036854775808 ≤ z ∧ z ≤ 9223372036854775807)
    (v1 : Value) (bl : List Nat) (A1 : Has w 1 v1 bl.length (u8s bl) ∧ ∀ b ∈ bl, b < 256) :
    Calls Try.prog 5 #[v0, v1] w fun e w' => e = .returned (.bool true) ∧ Below w.heap.size w w' := by
  have hA0 := Lib.hid A0.1; have hA1 := Lib.hid A1.1; have hbl := Lib.hid A1.2
  clear A0 A1
  have Hok := Lib.hid (widths_ok z0)
  have hle := widths_le z0
  go_enter Try.func5, Try.ntmps5
  go_wp2_with fail
  refine (cwidths v0 z0 w hA0.out).mono ?_
  rintro e w1 ⟨vw, rfl, hown, hb1⟩
  obtain ⟨a, cap, rfl⟩ := owns_slice hown
  have Hw := Lib.hid (Has.of_owns hown)
  have Hb1 := Lib.hid hb1
  have hA1' := Lib.hid (hA1.out.below hb1)
  clear hown hb1 hA0 hA1
  generalize widths z0 = ws at *
  have hwb := wsum_bd ws Hok.out
  obtain ⟨n, hn⟩ : ∃ n : Nat, (wsum ws + 7) / 8 = n := ⟨((wsum ws + 7) / 8).toNat, by omega⟩
  have hn2 : n ≤ 200 := by omega
  have Hsz := Lib.hid (csize _ ws w1 Hw.out Hok.out (by omega))
  rw [hn] at Hsz
  have Hn := Lib.hid hn
  clear hwb hn
  have hmk := fun X => make_u8 X n (by omega)
  go_wp2_with fail
  refine Hsz.out.mono ?_
  rintro e w' ⟨rfl, rfl⟩
  obtain ⟨⟨hl1, hnil⟩, ab, capb, rfl, hb1, hb2, hbc⟩ := hA1'.out
  unfold maxLen at hb2
  have Hbc := Lib.hid hbc
  clear hl1 hnil hbc
  generalize hzz : u8s (List.replicate n 0) = zz at *
  generalize hcc : u8s (bl.take n) = cc at *
  have hcl : cc.length = Nat.min bl.length n := by rw [← hcc, u8s_length, List.length_take]; exact Nat.min_comm _ _
  have hzl : zz.length = n := by rw [← hzz]; simp
  have Hzz := Lib.hid hzz
  have Hcc := Lib.hid hcc
  have Hcl := Lib.hid hcl
  have Hzl := Lib.hid hzl
  clear hzz hcc hcl hzl
  go_wp2_with (with_reducible refine wpList_copy_splice rfl _ _ _ _ rfl 5 Try.underlying32 (by kernel_rfl) _ _ _ _ _ _ rfl rfl w1.heap.size 0 zz 5 (by exact heap_alloc_new _ _) cc Hcl.out ?_ ?_ ?_ w1.heap.size w1 ((Below.refl _ _).alloc (Nat.le_refl _) _) (Nat.le_refl _) ?_)
  case refine_1 =>
    intro hp
    rw [Hcl.out] at hp
    have hbl0 : 0 < bl.length := by have : Nat.min bl.length n ≤ bl.length := Nat.min_le_left _ _; omega
    obtain ⟨b, off, rfl, hb⟩ := Hbc.out (by simpa using hbl0)
    refine ⟨⟨b, off, none⟩, rfl, fun j v hj => ?_⟩
    rw [addr_add _ _ rfl]
    refine cell_on ((Below.refl _ _).alloc (Nat.le_refl _) _) (hb j v ?_)
    rw [← Hcc.out] at hj
    unfold u8s at hj ⊢
    rw [List.map_take, List.getElem?_take] at hj
    split at hj
    · exact hj
    · cases hj
  case refine_2 => rw [Hcl.out, Hzl.out, Nat.zero_add]; exact Nat.min_le_right _ _
  case refine_3 => intro v hv; rw [← Hcc.out] at hv; exact List.all_eq_true.1 (u8s_one _) v hv
  intro w2 hrow hb2
  have hown : Hid (Has w2 1 (.slice (some ⟨w1.heap.size, 0, none⟩) n n) n (u8s (ownB n bl))) := by
    have h := hrow.out
    rw [← Hzz.out, ← Hcc.out, ownB_splice] at h
    exact has_row h (by simp [ownB_length]) (by unfold maxLen; omega)
  have hol := ownB_length n bl
  have hlt := Lib.hid (ownB_lt n bl hbl.out)
  generalize ownB n bl = ob at *
  have Hol := Lib.hid hol
  have hol2 : ob.length ≤ 200 := by omega
  have Hw2 := Lib.hid (Hw.out.below hb2)
  have Hb2 := Lib.hid (Hb1.out.trans (hb2.mono Hb1.out.size))
  have hsz2 : w2.heap.size ≤ w2.heap.size := Nat.le_refl _
  clear hrow hb2 hol Hzz Hcc Hcl Hzl Hbc hmk Hw Hb1 hA1'
  go_wp2_with (refine wp_appN (w0 := w2) 32 5 1 1 _ elU8 Try.underlying32 w2.heap.size _ _ _ (World.ownsRow_nil _ _ _ _) (by repeat (first | exact Below.refl _ _ | refine Below.drew ?_ | refine Below.alloc ?_ (by first | (simp; done) | (simp; omega)) _ | refine Below.setCell ?_ (by first | (simp; done) | (simp; omega)) _)) _ _ _ hown.out rfl _ _ rfl rfl rfl (u8s_one _) (by omega) (by unfold maxLen; omega) hsz2 ?_; intro v3 w3 hown3 hgrow3 hb3)
  rw [List.nil_append, Nat.zero_add] at hown3
  have Hv3 : Hid (Has w3 1 v3 ob.length (u8s ob)) := by rw [Hol.out]; exact Has.of_owns hown3
  have Hw3 := Lib.hid (Hw2.out.below hb3)
  have Ho3 := Lib.hid (hown.out.below hb3)
  have Hb3 := Lib.hid (Hb2.out.trans (hb3.mono Hb2.out.size))
  clear hown3 hgrow3 hb3 Hw2 hown Hb2 hsz2
  have hus := cunpack _ v3 ws ob w3 Hw3.out Hok.out (by omega) Hv3.out hlt.out (by rw [Hol.out]; exact Hn.out.symm)
  refine hus.mono ?_
  clear hus
  rintro e w4 ⟨h, hb2⟩
  have Hw4 := Lib.hid (Hw3.out.below hb2)
  have Ho4 := Lib.hid (Ho3.out.below hb2)
  have Hb4 := Lib.hid (Hb3.out.trans (hb2.mono Hb3.out.size))
  clear Hw3 Ho3 Hb3 hb2 Hv3
  rcases h with ⟨vu, rfl, hz, hown⟩ | ⟨rfl, hnz⟩
  case inr =>
    have hn0 : 0 < n := by
      rcases Nat.eq_zero_or_pos n with h0 | h0
      · exact absurd (fun i h1 h2 => by rw [Hol.out] at h2; omega) hnz
      · exact h0
    have hn0' : (0 : Int) < n := by omega
    clear hnz Ho4 Hw4
    go_wp2_with fail
    go_ret
    exact ⟨rfl, Hb4.out⟩
  have hrec := Lib.hid (recB_unpack ob ws Hok.out hlt.out (by rw [Hol.out]; exact Hn.out.symm) hz)
  have hfok := Lib.hid (unpack_ok ob ws (by omega) Hok.out)
  have hvl := unpackV_length ob ws 0
  generalize unpackV ob 0 ws = vs at *
  have Hvl := Lib.hid hvl
  obtain ⟨au, cu, rfl⟩ := owns_slice hown
  have hHu : Has w4 1 (.slice au ws.length cu) ws.length (ints vs) := Has.of_owns hown
  obtain ⟨_, ad, cap', he, _, _, hc⟩ := hHu
  simp only [Value.slice.injEq] at he
  obtain ⟨rfl, -, rfl⟩ := he
  have HcU := Lib.hid hc
  obtain ⟨_, ad, cap', he, _, _, hc'⟩ := Hw4.out
  simp only [Value.slice.injEq] at he
  obtain ⟨rfl, -, rfl⟩ := he
  have HcW := Lib.hid hc'
  clear hc hc' hown hz hvl Hw4
  go_wp2_with fail
  go_loopw [11, 12] (fun out i wr => ∃ k : Nat, k ≤ ws.length ∧ i = .int .i64 k ∧ wr.ownsRow w4.heap.size 37 2 out k (flds ((ws.zip vs).take k)) ∧ Below w4.heap.size w4 wr) (fun _ i _ => ws.length - (intOf i).toNat)
  case atStart => exact ⟨0, by omega, rfl, World.ownsRow_nil _ _ _ _, Below.refl _ _⟩
  case round =>
    obtain ⟨k, hk, rfl, hown, hb⟩ := hrel
    have Hb := Lib.hid hb
    have Hown := Lib.hid hown
    have hszk := hb.size
    clear hb hown
    by_cases hlt : k < ws.length
    · have hkv : k < vs.length := by have := Hvl.out; omega
      obtain ⟨b1, o1, rfl, h1⟩ := HcW.out (by simp; omega)
      obtain ⟨b2, o2, rfl, h2⟩ := HcU.out (by simp; omega)
      have q1 := Lib.hid (h1 k _ (ints_get ws k hlt))
      have q2 := Lib.hid (h2 k _ (ints_get vs k hkv))
      have g1 := cell_on Hb.out q1.out
      have g2 := cell_on Hb.out q2.out
      have hbl1 := World.block_lt_of_cell? wr _ g1
      have hbl2 := World.block_lt_of_cell? wr _ g2
      have Hz := Lib.hid (zip_take ws vs k hlt hkv)
      generalize ws[k] = x at *
      generalize vs[k] = y at *
      clear h1 h2 hkv
      go_wp2_with fail
      go_region_held3 (fun X => X.cell? ⟨b1, o1 + k, none⟩ = some (.int .i64 x) ∧ X.cell? ⟨b2, o2 + k, none⟩ = some (.int .i64 y)) (first | go_keep | exact ⟨cell_on (Hb.out.trans hb5) q1.out, cell_on (Hb.out.trans hb5) q2.out⟩)
        ((first | (refine step_appN (w0 := wr) (wanted_of_none (by rfl)) 30 37 2 16 _ elField Try.underlying30 w4.heap.size _ k _ Hown.out (by repeat (first | exact Below.refl _ _ | refine Below.drew ?_ | refine Below.alloc ?_ (by first | (simp; done) | (simp; omega)) _ | refine Below.setCell ?_ (by first | (simp; done) | (simp; omega)) _)) _ 1 [.int .i64 x, .int .i64 y] (has_blk (by first | exact heap_alloc_new _ _ | (simp only [heap_drew, heap_drewN]; exact heap_alloc_new _ _)) rfl (by rfl) (by decide)) _ _ (by rfl) (by rfl) (by rfl) (by rfl) (by omega) (by unfold maxLen; omega) hszk ?_; intro v5 w5 hown5 hgrow5 hb5) | fail))
      all_goals go_wp2_with fail
      all_goals
        go_roundw
        case rel => exact ⟨k + 1, by omega, by go_num, by rw [← Hz.out]; exact hown5, Hb.out.trans hb5⟩
        case measure => simp [intOf]; omega
    · obtain rfl : k = ws.length := by omega
      have hzl := zip_fst ws vs (Hvl.out.symm)
      have Hf : Hid (Has wr 2 u11 (ws.zip vs).length (flds (ws.zip vs))) := by
        have h := Has.of_owns Hown.out
        rw [List.take_of_length_le (by omega)] at h
        rw [hzl]; exact h
      clear Hown HcU HcW hzl
      go_wp2_with fail
      refine (cpack _ _ wr Hf.out hfok.out).mono ?_
      rintro e w6 ⟨vp, rfl, hown, hb2⟩
      have hpr := recB_length (ws.zip vs)
      have Hp : Hid (Has w6 1 vp ob.length (u8s ob)) := by
        have h := Has.of_owns hown
        unfold recBytes at h
        rw [hrec.out] at h hpr
        rw [← hpr] at h
        exact h
      have Ho6 : Hid (Has w6 1 (.slice (some ⟨w1.heap.size, 0, none⟩) n n) ob.length (u8s ob)) := by rw [Hol.out]; exact (Ho4.out.below Hb.out).below hb2
      have Hb6 : Hid (Below w.heap.size w w6) := (Hb4.out.trans (Hb.out.mono Hb4.out.size)).trans (hb2.mono (Hb4.out.trans (Hb.out.mono Hb4.out.size)).size)
      clear hown hb2 hpr
      go_wp2_with fail
      refine (csameBytes _ _ ob ob w6 Hp.out Ho6.out).mono ?_
      rintro e w7 ⟨rfl, hb2⟩
      have Hb7 := Lib.hid (Hb6.out.trans (hb2.mono Hb6.out.size))
      clear hb2
      go_wp2_with fail
      go_ret
      exact ⟨by simp, Hb7.out⟩
end Go.Proofs.Ytkeefpeffeoakaa.packFixed
