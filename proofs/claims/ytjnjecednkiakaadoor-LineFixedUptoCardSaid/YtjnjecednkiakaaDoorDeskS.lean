/- Lines: desk.Show, walked. -/
import Derived.Test.YtjnjecednkiakaaDoorDeskB
import Derived.Lib.AppendIntMem
namespace Go.Proofs.YtjnjecednkiakaaDoor
open Go.ChangeShapes Go.WideShapes Go.ChangeAt Go.RowKit
set_option linter.unusedVariables false
set_option linter.unusedSimpArgs false

set_option maxRecDepth 100000 in
set_option maxHeartbeats 8000000 in
theorem cShow (i : Nat) (hi : i < 11) (st : Nat → Int) (hk : st 0 = (i : Int) + 1) (hst : ∀ o, -9223372036854775808 ≤ st o ∧ st o ≤ 9223372036854775807) (hz : ∀ o, o < 8 → 1 ≤ o → o ∉ offsOf i → st o = 0) (w : World) (hW : WordsVar w)
    (hT : Lib.TabIs Tryd.prog w "internal/strconv.uint64pow10" .u64 Lib.pow10Tab) :
    Calls Tryd.prog 11 #[stepV st] w fun e w' => e = .returned (.tuple #[.string ⟨(lineP st (wordOf i, offsOf i)).toArray⟩, .int .i64 0]) ∧ Below w.heap.size w w' := by
  have hk1 : ¬ (st 0 < 1) := by omega
  have hk2 : ¬ (11 < st 0) := by omega
  have hk3 : IntKind.i64.wrap (st 0 - 1) = (i : Int) := by rw [IntWalk.i64_in _ (by omega)]; omega
  have hii : (i : Int) < 11 := by omega
  obtain ⟨hc0, hc1⟩ := hW i hi
  have h0 : 0 < w.heap.size := World.block_lt_of_cell? w _ hc0
  have HK := Lib.hid hk
  have HST := Lib.hid hst
  have HZ := Lib.hid hz
  have HT := Lib.hid hT
  have HI := Lib.hid hi
  clear hk hst hz hT hW
  unfold stepV
  go_enter Tryd.func11, Tryd.ntmps11
  go_wp2_with fail
  with_reducible refine (cFields _ _).mono ?_
  rintro e w2 ⟨m, rfl, hm, hF, hb⟩
  simp only [World.size_alloc] at hm
  have hB2 : Below w.heap.size w w2 := ((((Below.refl _ w).alloc (Nat.le_refl _) _).alloc (by simp) _).alloc (by simp; omega) _).trans (hb.mono (by simp; omega))
  have hbox2 : Box w2 w.heap.size st := by
    unfold Box
    rw [hb.block _ (by simp; omega)]
    exact (Below.heap_alloc _ _ _ (by simp; omega)).trans ((Below.heap_alloc _ _ _ (by simp)).trans (heap_alloc_new w _))
  have hlet2 : w2.cell? ⟨w.heap.size + 1, 1, none⟩ = some (.string ⟨(ltrsOf i).toArray⟩) := by
    have e1 : w2.heap[w.heap.size + 1]? = some (.cells #[.string ⟨(wordOf i).toArray⟩, .string ⟨(ltrsOf i).toArray⟩] 43 (0, 0)) := by
      rw [hb.block _ (by simp)]
      refine (Below.heap_alloc _ _ _ (by simp)).trans ?_
      rw [show w.heap.size + 1 = (w.alloc (Obj.cells #[.int .i64 (st 0), .int .i64 (st 1), .int .i64 (st 2), .int .i64 (st 3), .int .i64 (st 4), .int .i64 (st 5), .int .i64 (st 6), .int .i64 (st 7)] 32)).heap.size by simp]
      exact heap_alloc_new _ _
    rw [cell_of_row w2 _ _ _ _ _ e1]; rfl
  have hown2 : w2.ownsRow (w.heap.size + 2) 9 1 (.slice (some ⟨w.heap.size + 1 + 1, 0, none⟩) 1 1) 1 (strs [wordOf i]) :=
    owns_below (owns_block (heap_alloc_new _ _) (by simp) rfl (by decide) (by simp)) hb
  have hsz2 := hB2.size
  have hsz3 : w.heap.size + 3 ≤ w2.heap.size := by have := hb.size; simp at this; omega
  have hFlt := hF.lt
  clear hb hc0 hc1 hk1 hk2 hk3 hii
  go_wp2_with fail
  have HBOX := Lib.hid hbox2
  have hoffs := offs_ok i hi
  have HOF := Lib.hid hoffs.1
  have HND := Lib.hid hoffs.2.1
  have HL4 := Lib.hid hoffs.2.2
  have HWD := Lib.hid (word_ok i hi)
  have HEND : Hid (∀ o, o < 8 → zeroed st (offsOf i) o = (if o = 0 then ((i : Int) + 1) else 0)) := fun o ho => by
    unfold zeroed
    by_cases e0 : o = 0
    · subst e0
      rw [if_neg (fun h => by have := (HOF.out 0 h).1; omega), if_pos rfl]
      exact HK.out
    · rw [if_neg e0]
      by_cases e1 : o ∈ offsOf i
      · rw [if_pos e1]
      · rw [if_neg e1]; exact HZ.out o ho (by omega) e1
  have hLINE : Hid (lineP st (wordOf i, offsOf i) = Lib.join (wordOf i :: (offsOf i).map fun o => Lib.itoa (st o)) [32]) := rfl
  have HLEN := Lib.hid (line_len st HST.out i hi)
  have hlets : ltrsOf i = (offsOf i).map ltr := rfl
  rw [hlets]
  clear hlets hlet2 hoffs hbox2 hi HZ
  generalize hLq : offsOf i = L at *
  generalize hwq : wordOf i = wd at *
  have HLq := Lib.hid hLq
  have HWq := Lib.hid hwq
  clear hLq hwq
  go_loopw [5] (fun v wr => ∃ k : Nat, k ≤ L.length ∧ Hid (wr.heap[w2.heap.size]? = some (.stringIter ⟨(L.map ltr).toArray⟩ k)) ∧ Hid (wr.ownsRow (w.heap.size + 2) 9 1 v (k + 1) (strs (wd :: (L.take k).map fun o => Lib.itoa (st o)))) ∧ Hid (Box wr w.heap.size (zeroed st (L.take k))) ∧ Hid (FMap wr m 7 w.heap.size (FF true true true true true true true)) ∧ Hid (Below w.heap.size w wr)) (fun _ wr => L.length - wr.iterPos w2.heap.size)
  case atStart =>
    refine ⟨0, Nat.zero_le _, World.iter_heap w2 _ 0, owns_below hown2 ((Below.refl _ _).alloc (Nat.le_refl _) _), ?_, hF.kept (Below.heap_alloc _ _ _ hFlt), hB2.trans ((Below.refl _ w2).alloc hsz2 _)⟩
    exact (HBOX.out.kept (Below.heap_alloc _ _ _ (by omega))).congr fun o _ => by simp [zeroed]
  case round =>
    obtain ⟨k, hk, HIT, HO, HBX, HF, HB⟩ := hrel
    have hss : ByteArray.size ⟨(L.map ltr).toArray⟩ = L.length := by simp [ByteArray.size]
    by_cases hlt : k < L.length
    · obtain ⟨o, he⟩ : ∃ o, o = L[k] := ⟨_, rfl⟩
      have hmem : o ∈ L := he ▸ List.getElem_mem hlt
      obtain ⟨ho1, ho7⟩ := HOF.out o hmem
      have htk : L.take (k + 1) = L.take k ++ [o] := by rw [he, List.take_succ_eq_append_getElem hlt]
      have hnot : o ∉ L.take k := fun hin => by
        have hnd := (List.take_sublist (k + 1) L).nodup HND.out
        rw [htk, List.nodup_append] at hnd
        exact hnd.2.2 o hin o (by simp) rfl
      have hp : k < ByteArray.size ⟨(L.map ltr).toArray⟩ := by rw [hss]; exact hlt
      have hbyte : (ByteArray.mk (L.map ltr).toArray)[k]'hp = ltr o := by
        show ((L.map ltr).toArray)[k]'(by simpa using hlt) = _
        simp [he]
      have hnx : ∀ ty, (Instr.next (.pointer (some ⟨w2.heap.size, 0, none⟩)) true ty).run Tryd.prog wr = .ok (.tuple #[.bool true, .int .i64 (k : Nat), .int .i32 ((ltr o).toNat : Nat)]) (wr.iterAt w2.heap.size ⟨(L.map ltr).toArray⟩ (k + 1)) := fun ty => by
        rw [Lib.run_next_ascii_at wr _ _ k ty HIT.out hp (by rw [hbyte]; exact ltr_lt o (by omega)), hbyte]
      have hit2 := Lib.iterAt_heap wr w2.heap.size _ k (k + 1) HIT.out
      have hB3 := Lib.below_iterAt HB.out hsz2 ⟨(L.map ltr).toArray⟩ (k + 1)
      have hO2 := ownsRow_iterAt HO.out (owns_kind HO.out HIT.out (by intro _ _ _ h; cases h)) ⟨(L.map ltr).toArray⟩ (k + 1)
      have hbx2 := HBX.out.kept (Lib.iterAt_other wr w2.heap.size w.heap.size ⟨(L.map ltr).toArray⟩ (k + 1) (by omega))
      have hF2 := HF.out.kept (Lib.iterAt_other wr w2.heap.size m ⟨(L.map ltr).toArray⟩ (k + 1) (by omega))
      have hmu := iterPos_of HIT.out
      obtain ⟨W1, hW1⟩ : ∃ X, X = wr.iterAt w2.heap.size ⟨(L.map ltr).toArray⟩ (k + 1) := ⟨_, rfl⟩
      rw [← hW1] at hnx hit2 hB3 hO2 hbx2 hF2
      have hkey : (Lit.int .i32 ((ltr o).toNat : Nat)).wf = true := by
        have := ltr_lt o (by omega)
        have e1 : IntKind.i32.min = -2147483648 := by rfl
        have e2 : IntKind.i32.max = 2147483647 := by rfl
        simp [Lit.wf]
        omega
      have hl1 := hF2.look (k := ((ltr o).toNat : Nat)) hkey (ltr_key ho1 ho7)
      obtain ⟨c1, -⟩ := hbx2.cell o (by omega)
      rw [show zeroed st (L.take k) o = st o from if_neg hnot] at c1
      have htb := Lib.tabBelow_of_tabIs HT.out W1 hB3
      have CI := Lib.hid (Tryd.strconv_Itoa (st o) (HST.out o).1 (HST.out o).2 W1 htb)
      have HIT2 := Lib.hid hit2
      have HO2 := Lib.hid hO2
      have HBX2 := Lib.hid hbx2
      have HF2 := Lib.hid hF2
      have HB3 := Lib.hid hB3
      have HKEY := Lib.hid hkey
      have HTK := Lib.hid htk
      have hL4 := HL4.out
      have hm2 : m ≠ w2.heap.size := by omega
      have hszW := HB3.out.size
      clear hW1 hbyte hp htb hit2 hO2 hbx2 hF2 hB3 hkey he hmem hnot htk
      go_wp2_with fail
      refine CI.out.mono ?_
      rintro e W2 ⟨rfl, q, os, hW2⟩
      have hb2 : Below W1.heap.size W1 W2 := hW2 ▸ Lib.below_grow _ _ (Nat.le_refl _) q os
      have hB4 := Lib.hid (HB3.out.trans (hb2.mono HB3.out.size))
      have hO4 := owns_below HO2.out hb2
      have hszx : w.heap.size + 2 ≤ W2.heap.size := by
        have h1 := hb2.size
        have h2 := (Array.getElem?_eq_some_iff.1 HIT2.out).1
        omega
      have HAFT : Hid (∀ v5 w5, w5.ownsRow (w.heap.size + 2) 9 1 v5 (k + 1 + 1) (strs (wd :: (L.take k).map fun o => Lib.itoa (st o)) ++ [.string ⟨(Lib.itoa (st o)).toArray⟩]) → W2.grownBy w5 (Value.ownBlock u5) →
          w5.heap[w2.heap.size]? = some (.stringIter ⟨(L.map ltr).toArray⟩ (k + 1)) ∧ Box w5 w.heap.size (zeroed st (L.take k)) ∧ FMap w5 m 7 w.heap.size (FF true true true true true true true) ∧ Below w.heap.size w w5 ∧
          (Instr.lookup 46 (.map (some m)) (.int .i32 ((ltr o).toNat : Nat)) false).run Tryd.prog w5 = .ok (.pointer (some ⟨w.heap.size, o, none⟩)) w5 ∧ (∃ x, w5.cell? ⟨w.heap.size, o, none⟩ = some (.int .i64 x)) ∧ w5.frozen? ⟨w.heap.size, o, none⟩ = false) := fun v5 w5 ho5 hg5 => by
        have hitW : W2.heap[w2.heap.size]? = some (.stringIter ⟨(L.map ltr).toArray⟩ (k + 1)) := (hb2.block _ (Array.getElem?_eq_some_iff.1 HIT2.out).1).trans HIT2.out
        have hFW := HF2.out.kept (hb2.block _ HF2.out.lt)
        have hbW := HBX2.out.kept (hb2.block _ HBX2.out.lt)
        obtain ⟨es, cc, hmb⟩ := hFW.block
        have n1 := owns_kind hO4 hitW (by intro _ _ _ h; cases h)
        have n2 := owns_kind hO4 hmb (by intro _ _ _ h; cases h)
        have n3 : some w.heap.size ≠ Value.ownBlock u5 := fun h => by have := (hO4.lt _ h.symm).1; omega
        have a1 := (hg5.block _ (Array.getElem?_eq_some_iff.1 hitW).1 (Ne.symm n1)).trans hitW
        have a2 := hbW.kept (hg5.block _ hbW.lt n3)
        have a3 := hFW.kept (hg5.block _ hFW.lt (Ne.symm n2))
        have a4 := a2.cell o (by omega)
        exact ⟨a1, a2, a3, hB4.out.grown hg5 (by omega) (fun j hj => by have := (hO4.lt _ hj).1; omega), a3.look HKEY.out (ltr_key ho1 ho7), ⟨_, a4.1⟩, a4.2⟩
      have HO4 := Lib.hid hO4
      clear hb2 hW2 hO4
      go_wp2_with ((at_builtin; refine wp_app1 (w0 := W2) 45 9 1 16 _ elStr Tryd.underlying45 (w.heap.size + 2) _ _ _ HO4.out (by repeat (first | exact Below.refl _ _ | refine Below.drew ?_ | refine Below.alloc ?_ (by first | (simp; done) | (simp; omega)) _ | refine Below.setCell ?_ (by first | (simp; done) | (simp; omega)) _)) [.string ⟨(Lib.itoa (st o)).toArray⟩] rfl _ _ rfl rfl rfl (by first | exact heap_alloc_new _ _ | (simp only [heap_drew, heap_drewN]; exact heap_alloc_new _ _)) (by simp) rfl rfl (by omega) (by omega) hszx ?_; intro v5 w5 hown5 hgrow5 hb5); obtain ⟨a1, a2, a3, a4, a5, ⟨ax, a6⟩, a7⟩ := HAFT.out _ _ hown5 hgrow5; clear hgrow5)
      have hm3 : w2.heap.size ≠ w.heap.size := by omega
      have e1 : (w5.setCell ⟨w.heap.size, o, none⟩ (.int .i64 0)).heap[w2.heap.size]? = some (.stringIter ⟨(L.map ltr).toArray⟩ (k + 1)) := (Below.heap_setCell _ _ _ _ hm3).trans a1
      go_roundw
      case rel =>
        refine ⟨k + 1, hlt, e1, ?_, ?_, a3.kept (Below.heap_setCell _ _ _ _ (by show m ≠ w.heap.size; omega)), a4.setCell (Nat.le_refl _) _⟩
        · show World.ownsRow _ _ _ _ _ _ _
          rw [HTK.out, List.map_append, ← List.cons_append, show (List.map (fun o => Lib.itoa (st o)) [o]) = [Lib.itoa (st o)] from rfl, strs_snoc_map]
          exact ownsRow_setCell_below hown5 (by show w.heap.size < w.heap.size + 2; omega) _
        · show Box _ _ _
          rw [HTK.out, ← zeroed_snoc]
          exact a2.put o (by omega) 0
      case measure =>
        rw [iterPos_of e1, hmu]; omega
    · obtain rfl : k = L.length := by omega
      have hnx : ∀ ty, (Instr.next (.pointer (some ⟨w2.heap.size, 0, none⟩)) true ty).run Tryd.prog wr = .ok (.tuple #[.bool false]) wr := fun ty => Lib.run_next_end_at wr _ _ _ ty HIT.out (by rw [hss]; omega)
      have hbx := (HBX.out.congr (g := fun o => if o = 0 then ((i : Int) + 1) else 0) (fun o ho => by rw [List.take_length]; exact HEND.out o ho))
      have c0 := (hbx.cell 0 (by omega)).1
      have c1 := (hbx.cell 1 (by omega)).1
      have c2 := (hbx.cell 2 (by omega)).1
      have c3 := (hbx.cell 3 (by omega)).1
      have c4 := (hbx.cell 4 (by omega)).1
      have c5 := (hbx.cell 5 (by omega)).1
      have c6 := (hbx.cell 6 (by omega)).1
      have c7 := (hbx.cell 7 (by omega)).1
      simp only [reduceIte, Nat.reduceEqDiff] at c0 c1 c2 c3 c4 c5 c6 c7
      have hq := fun X => neq_step (fun o => if o = 0 then ((i : Int) + 1) else 0) X
      simp only [stepV, reduceIte, Nat.reduceEqDiff] at hq
      have hO := HO.out
      rw [List.take_length] at hO
      obtain ⟨g, cap, rfl, hcap, hglt, hcl⟩ := strs_at hO
      have CJ := Lib.hid (Tryd.strings_Join g 0 cap ((wd :: L.map fun o => Lib.itoa (st o)).map fun x => ⟨x.toArray⟩) ⟨#[32]⟩ wr (by simpa using hcl) hglt (by have := HL4.out; simp; omega) (by simpa using hcap) (by
        have := HLEN.out.1
        rw [hLINE.out] at this
        simp only [List.map_map, Function.comp_def, List.map_id'] at *
        omega))
      simp only [List.map_map, Function.comp_def, List.map_id', List.length_map, List.length_cons] at CJ
      clear hbx hO hcl hglt hcap
      go_wp2_with fail
      refine CJ.out.mono ?_
      rintro e w6 ⟨rfl, hb6⟩
      have HFIN := Lib.hid (HB.out.trans (hb6.mono HB.out.size))
      rw [← hLINE.out]
      clear hb6
      go_wp2_with fail
      go_ret2
      exact ⟨by rw [HLq.out, HWq.out]; rfl, HFIN.out⟩
end Go.Proofs.YtjnjecednkiakaaDoor
