/- Texts that the claim imports, laid together: WTick WDelC. No statement of their own. -/
import Derived.Test.YtjdedflfdlhkdaaGreatDoorKal
import Derived.Test.YtjdedflfdlhkdaaGreatDoorKam
import Derived.Test.YtjdedflfdlhkdaaGreatDoorKan
import Derived.Test.YtjdedflfdlhkdaaGreatDoorKaq
namespace Go.Proofs.YtjdedflfdlhkdaaGreatDoor
open Go.ChangeShapes Go.WideShapes Go.ChangeAt Go.RowKit
set_option linter.unusedVariables false
set_option linter.unusedSimpArgs false

theorem tick_start {w : World} {c : Cfg} {X : Adr} {own : Own} {N : Nat} {s : Wld} (h : WAt w c X own N s) : WTk w own ((w.alloc (.cells #[.pointer (some ⟨X.W, 0, none⟩)] 79)).alloc (.cells #[.int .i64 0, .int .i64 0, .int .i64 0, .int .i64 0, .int .i64 0, .int .i64 0, .int .i64 0, .int .i64 0, .slice none 0 0, .slice none 0 0, .slice none 0 0] 57)) c X own N s (.slice none 0 0) [] (.slice none 0 0) [] := by
  have hb : Below w.heap.size w (w.alloc (.cells #[.pointer (some ⟨X.W, 0, none⟩)] 79)) := (Below.refl _ _).alloc (Nat.le_refl _) _
  have g1 := (Gone.start h).on hb
  have hb2 : Below (w.alloc (.cells #[.pointer (some ⟨X.W, 0, none⟩)] 79)).heap.size (w.alloc (.cells #[.pointer (some ⟨X.W, 0, none⟩)] 79)) ((w.alloc (.cells #[.pointer (some ⟨X.W, 0, none⟩)] 79)).alloc (.cells #[.int .i64 0, .int .i64 0, .int .i64 0, .int .i64 0, .int .i64 0, .int .i64 0, .int .i64 0, .int .i64 0, .slice none 0 0, .slice none 0 0, .slice none 0 0] 57)) := (Below.refl _ _).alloc (Nat.le_refl _) _
  have m1 : Mine own (w.alloc (.cells #[.pointer (some ⟨X.W, 0, none⟩)] 79)) w.heap.size (.cells #[.pointer (some ⟨X.W, 0, none⟩)] 79 (0, 0)) := ⟨(Gone.start h).none (Nat.le_refl _), heap_alloc_new _ _⟩
  have hs : (w.alloc (.cells #[.pointer (some ⟨X.W, 0, none⟩)] 79)).heap.size = w.heap.size + 1 := by simp
  refine ⟨g1.on hb2, m1.on hb2, ⟨g1.none (by rw [hs]; exact Nat.le_refl _), ?_⟩, ⟨World.ownsRow_nil _ _ _ _, fun g hg => by cases hg⟩, ⟨World.ownsRow_nil _ _ _ _, fun g hg => by cases hg⟩⟩
  rw [← hs]; exact heap_alloc_new _ _
theorem cRoundW {w : World} {c : Cfg} {X : Adr} {own : Own} {N : Nat} {s : Wld} (h : WAt w c X own N s) (k : Nat) (hk : k < c.items) (hok : BkOk c.n (s.bk k)) (h1 : 1 ≤ c.n) (h8 : c.n ≤ 8) (hr : (s.bk k).round ≤ 1000) :
    Calls Tryz.prog 65 #[.pointer (some ⟨X.K k, 0, none⟩)] w fun e w' => ∃ v' own', e = .returned (.tuple #[v', .int .i64 (s.bk k).report]) ∧ w'.ownsRow w.heap.size 3 1 v' (s.bk k).rounded.granted.length (ints (s.bk k).rounded.granted) ∧ WAt w' c X own' N { s with bk := updF s.bk k (s.bk k).rounded } ∧ Went own own' w w' ∧ ∀ g, v'.ownBlock = some g → own' g = none := by
  obtain ⟨gw, gg, gq, cq, q, t1, t2, t3, t4⟩ := (h.bk k hk).ex
  refine (cround q hok h1 h8 hr).mono ?_
  rintro e w' ⟨v', gq', cq', he, hown, hq, hgq, hwr, hne⟩
  obtain ⟨own', r1, r2, r3⟩ := BksAt.put (b := s.bk k) (cq := cq) h.lt t1 t2 t3 t4 hq hgq hwr
  refine ⟨v', own', he, by rw [hok.rounded.lg]; exact hown, h.book k hk r1 r2, r2.went, fun g hg => r3 g ?_ ?_⟩
  · have := (owns_block_of hown hg).1
    cases ho : own g with
    | none => rfl
    | some t => exact absurd (h.lt g (by rw [ho]; simp)) (by omega)
  · rcases hown.2 with ⟨rfl, _⟩ | ⟨g', cap, cur, rfl, _⟩
    · cases hg
    · simp only [Value.ownBlock, Option.some.injEq] at hg
      subst hg
      exact hne _ _ _ _ rfl
theorem infoIntRows : (Tryz.prog.info? 22).map (fun i => (i.zero, i.size, i.bytes)) = some (some (.slice none 0 0), 1, 24) := by kernel_rfl
theorem WTk.same {w0 w1 : World} {own own1 : Own} {c : Cfg} {X : Adr} {N M : Nat} {s s2 : Wld} {sv rv : Value} {l : List Env} {rp : List Int} (t : WTk w0 own w1 c X own1 N s sv l rv rp) (h : WAt w1 c X own1 M s2) : WTk w0 own w1 c X own1 M s2 sv l rv rp :=
  t.step h (Went.of_below (Below.refl _ _) t.g.at'.lt)
set_option maxRecDepth 100000 in
set_option maxHeartbeats 16000000 in
theorem cTick {w : World} {c : Cfg} {X : Adr} {own : Own} {N K : Nat} {s : Wld} (hc : c.Ok) (h : WAt w c X own N s) (hok : WOk c K s) (hK : K ≤ 1000) (hN : N ≤ 999900) :
    Calls Tryz.prog 54 #[.pointer (some ⟨X.W, 0, none⟩)] w (Stepped w c X own (N + 20) (s.tick c)) := by
  have HT := Lib.hid (tick_start h)
  have HC := Lib.hid hc
  have HOK := Lib.hid hok
  have hn := hc.n
  have hit := hc.items
  have hitc : c.items = c.minted.length := rfl
  have hln := hc.len
  have HR : Hid (s.tick c = ({ noT 0 with sent := envs c.labs s.ls.length (tickMsgs c s), report := reportsOf c s }, s.ticked c)) := rfl
  have eg : ∀ args w, (callFunc 60 args).run Tryz.prog w = .ok (.enter 60 args) w := enters_of Tryz.func60 (by kernel_rfl) rfl
  have hz0 := Lib.hid (tickTo_zero s c.items)
  rw [← hitc] at hit
  clear hc h hok hitc
  go_enter Tryz.func54, Tryz.ntmps54
  go_upto_region 2 with (fail)
  generalize ((w.alloc (.cells #[.pointer (some ⟨X.W, 0, none⟩)] 79)).alloc (.cells #[.int .i64 0, .int .i64 0, .int .i64 0, .int .i64 0, .int .i64 0, .int .i64 0, .int .i64 0, .int .i64 0, .slice none 0 0, .slice none 0 0, .slice none 0 0] 57)) = W at *
  have b0 : W.cell? ⟨w.heap.size, 0, none⟩ = some (.pointer (some ⟨X.W, 0, none⟩)) := by rw [cell_of_row W _ _ _ _ _ HT.out.b1.hb]; rfl
  obtain ⟨x0, x1, x2, x3, x4, x5, x6, x7, x8⟩ := HT.out.g.at'.head
  have hcb := (HT.out.g.at'.ptr 0 (by omega)).2
  have hck := (HT.out.g.at'.bptr 0 (by omega)).2
  unfold maxLen at hcb hck
  go_upto_region 3 with (fail)
  clear b0 x0 x1 x2 x3 x4 x5 x6 x7 x8
  go_loopw [5, 31] (fun _ j wr => ∃ (a : Nat) (own' : Own), a ≤ c.n ∧ j = .int .i64 a ∧ Hid (WTk w own wr c X own' N (s.tickTo c.items a 0) (.slice none 0 0) [] (.slice none 0 0) [])) (fun _ j _ => c.n - (intOf j).toNat)
  case atStart => exact ⟨0, own, by omega, rfl, by rw [hz0.out]; exact HT⟩
  case round =>
    clear HT
    obtain ⟨a, own1, ha, rfl, HT⟩ := hrel
    by_cases hlt : a < c.n
    · have hltz : (a : Int) < (c.n : Int) := by omega
      have p0 := (HT.out.g.at'.ptr a hlt).1
      have b0 := (HT.out.g.at'.branch a hlt).1
      have HLT := Lib.hid hlt
      go_upto_region 6 with (fail)
      clear p0 b0
      go_loopw [6, 40] (fun _ j wq => ∃ (b : Nat) (own' : Own), b ≤ c.items ∧ j = .int .i64 b ∧ Hid (WTk w own wq c X own' N (s.tickTo c.items a b) (.slice none 0 0) [] (.slice none 0 0) [])) (fun _ j _ => c.items - (intOf j).toNat)
      case atStart => exact ⟨0, own1, by omega, rfl, HT⟩
      case round =>
        clear HT
        obtain ⟨b, own2, hb, rfl, HT⟩ := hrel
        by_cases hlt2 : b < c.items
        · have hltz2 : (b : Int) < (c.items : Int) := by omega
          have b0 := (HT.out.g.at'.branch a HLT.out).1
          have hmd : ((s.tickTo c.items a b).sh a b).made ≤ 1000 := by rw [tickTo_at]; have := HOK.out.made a b HLT.out hlt2; omega
          have CD : Hid (∀ Y, Below wr.heap.size wr Y → _) := fun Y hY => cDoW (HT.out.on hY).g.at' a b HLT.out hlt2 ⟨7, 0, 0, 0⟩ (by simp) hmd
          simp only [Ord.val] at CD
          have hsu := Lib.hid (tickTo_succ s c.items a b)
          clear hmd
          go_wp2_with fail
          refine (CD.out _ (by repeat (first | exact Below.refl _ _ | refine Below.drew ?_ | refine Below.alloc ?_ (by first | (simp; done) | (simp; omega)) _ | refine Below.setCell ?_ (by first | (simp; done) | (simp; omega)) _))).mono ?_
          rintro e w5 ⟨rfl, own5, hW5, hU5⟩
          have HT5 : Hid (WTk w own w5 c X own5 N (s.tickTo c.items a (b + 1)) (.slice none 0 0) [] (.slice none 0 0) []) := by
            show WTk _ _ _ _ _ _ _ _ _ _ _ _
            rw [hsu.out]; exact HT.out.step hW5 hU5
          clear hW5 hU5 CD b0 HT
          go_wp2_with fail
          go_roundw
          case rel => first | exact ⟨b + 1, own5, by omega, by go_num, HT5⟩ | ((repeat apply Exists.intro); exact ⟨⟨b + 1, own5, by omega, by go_num, HT5⟩, rfl⟩)
          case measure => first | (simp [intOf]; done) | (simp [intOf]; omega)
        · obtain rfl : b = c.items := by omega
          have HT5 : Hid (WTk w own wr c X own2 N (s.tickTo c.items (a + 1) 0) (.slice none 0 0) [] (.slice none 0 0) []) := by rw [← tickTo_row]; exact HT
          clear HT
          go_wp2_with fail
          go_roundw
          case rel => first | exact ⟨a + 1, own2, by have := HLT.out; omega, by go_num, HT5⟩ | ((repeat apply Exists.intro); exact ⟨⟨a + 1, own2, by have := HLT.out; omega, by go_num, HT5⟩, rfl⟩)
          case measure => first | (simp [intOf]; done) | (have := HLT.out; simp [intOf]; omega)
    · obtain rfl : a = c.n := by omega
      have hs1 : Hid (∃ s1 : Wld, s1 = { s with sh := fun i k => (s.sh i k).ticked }) := ⟨_, rfl⟩
      obtain ⟨s1, hs1⟩ := hs1.out
      have hT1 := HT.out.same (HT.out.g.at'.shCongr (fun i k => (s.sh i k).ticked) (fun i k hi hk => by unfold Wld.tickTo; exact (if_pos (.inl ⟨hi, hk⟩)).symm))
      have hT1' : Hid (WTk w own wr c X own1 N s1 (.slice none 0 0) [] (.slice none 0 0) []) := by
        show WTk _ _ _ _ _ _ _ _ _ _ _ _
        rw [hs1]; exact hT1
      have HS1 := Lib.hid hs1
      have HOK1 : Hid (WOk c (K + 1) s1) := by
        have q := HOK.out
        rw [hs1]
        refine ⟨fun i k hi hk => ticked_ok (q.sh i k hi hk), fun i k hi hk => ?_, q.asks, q.gain, fun i j hi hj => (q.st i j hi hj).mono (by omega), q.bk, fun k hk => (by have := q.round k hk; show (s.bk k).round ≤ _; omega), fun x hx => (q.ls x hx).mono (by omega)⟩
        have := q.made i k hi hk
        simp only [Shf.ticked]; omega
      have hbr : Hid (∀ k, k < c.items → (s1.bk k).round ≤ 1000) := fun k hk => by have q := HOK.out.round k hk; rw [hs1]; simp only; omega
      have hm0 := Lib.hid (more_nil s1)
      have hml := Lib.hid (fun l => more_length s1 l)
      have hmsn := Lib.hid (fun l x => more_snoc s1 l x)
      have hesn := Lib.hid (fun l x => envs_snoc c.labs s1.ls.length l x)
      have hpl := Lib.hid (fun i => preMsgs_length c s1 i)
      have hrl := Lib.hid (fun i j => rowTo_length c s1 i j)
      have hel := Lib.hid (fun l => envs_length c.labs s1.ls.length l)
      clear HT hT1 hs1 HOK
      obtain ⟨x0, x1, x2, x3, x4, x5, x6, x7, x8⟩ := hT1'.out.g.at'.head
      have b0 : wr.cell? ⟨w.heap.size, 0, none⟩ = some (.pointer (some ⟨X.W, 0, none⟩)) := by rw [cell_of_row wr _ _ _ _ _ hT1'.out.b1.hb]; rfl
      go_upto_region 12 with (fail)
      clear x0 x1 x2 x3 x4 x5 x6 x7 x8 b0
      go_loopw [7, 8, 58] (fun _ _ j wp => ∃ (i : Nat) (own' : Own) (sv : Value) (M : Nat), i ≤ c.n ∧ j = .int .i64 i ∧ M ≤ N + (preMsgs c s1 i).length ∧ Hid (WTk w own wp c X own' M (s1.more (preMsgs c s1 i)) sv (envs c.labs s1.ls.length (preMsgs c s1 i)) (.slice none 0 0) [])) (fun _ _ j _ => c.n - (intOf j).toNat)
      case atStart => exact ⟨0, own1, _, N, by omega, rfl, by omega, by show WTk _ _ _ _ _ _ _ _ _ _ _ _; rw [show preMsgs c s1 0 = [] from rfl, hm0.out]; exact hT1'.out⟩
      case round =>
        clear hT1'
        obtain ⟨i, own2, sv, M, hi, rfl, hM, HT⟩ := hrel
        by_cases hlt : i < c.n
        · have hltz : (i : Int) < (c.n : Int) := by omega
          have HLT := Lib.hid hlt
          obtain ⟨x0, x1, x2, x3, x4, x5, x6, x7, x8⟩ := HT.out.g.at'.head
          have b0 : wr.cell? ⟨w.heap.size, 0, none⟩ = some (.pointer (some ⟨X.W, 0, none⟩)) := by rw [cell_of_row wr _ _ _ _ _ HT.out.b1.hb]; rfl
          have p0 := (HT.out.g.at'.ptr i hlt).1
          obtain ⟨b1, b2, b3, b4⟩ := HT.out.g.at'.branch i hlt
          have hpli := hpl.out i
          have hpi : i * (c.n + 1) ≤ 15 := Nat.le_trans (Nat.mul_le_mul (show i ≤ 3 by omega) (show c.n + 1 ≤ 5 by omega)) (by decide)
          have CA : Hid (∀ Y, Below wr.heap.size wr Y → _) := fun Y hY => cAsks HC.out (HT.out.on hY).g.at'.fix.cfg (.slice (some ⟨X.A i, 0, none⟩) c.items c.items) ((List.range c.items).map ((s1.more (preMsgs c s1 i)).asks i)) ((HT.out.on hY).g.at'.asksHas i HLT.out hit.2) (fun x hx => by
            obtain ⟨k, hk, rfl⟩ := List.mem_map.1 hx
            exact HOK1.out.asks i k HLT.out (List.mem_range.1 hk)) (by simp; rfl)
          unfold Cfg.cells at CA
          obtain ⟨x, hx⟩ : ∃ y, y = askMsg c s1 i := ⟨_, rfl⟩
          have hxe : Hid (recBytes (askF ((List.range c.items).map ((s1.more (preMsgs c s1 i)).asks i))) = u8s (x.enc c.labs) ∧ recSize (askF ((List.range c.items).map ((s1.more (preMsgs c s1 i)).asks i))) = (x.enc c.labs).length) := by rw [hx]; exact ⟨rfl, by rw [show (askMsg c s1 i).enc c.labs = recB (askF ((List.range c.items).map (s1.asks i))) from rfl, recB_length]; rfl⟩
          have hxf : x.f = i := by rw [hx]; rfl
          have hxt : x.t = c.n := by rw [hx]; rfl
          have hxo : Hid ((x.ltr c.labs).Ok) := by
            have h1 : (x.enc c.labs).length ≤ 256 := by rw [← hxe.out.2, askF_size]; simp; omega
            exact ⟨⟨by simp [Let.ltr], by simp only [Let.ltr]; omega⟩, ⟨by simp [Let.ltr], by simp only [Let.ltr]; omega⟩, h1⟩
          have HX := Lib.hid hx
          have HXF := Lib.hid hxf
          have HXT := Lib.hid hxt
          clear hx hxf hxt
          go_upto_region 14 with (fail)
          go_cut [9, 10] (fun v e wx => ∃ a5 c5, v = .slice a5 (x.enc c.labs).length c5 ∧ e = .int .i64 0 ∧ Hid (Below wr.heap.size wr wx) ∧ Hid (HasT wx 5 1 (.slice a5 (x.enc c.labs).length c5) (x.enc c.labs).length (u8s (x.enc c.labs))))
          case first =>
            go_region_law (go_simp; go_at_call 63; refine (CA.out _ (by repeat (first | exact Below.refl _ _ | refine Below.drew ?_ | refine Below.alloc ?_ (by first | (simp; done) | (simp; omega)) _ | refine Below.setCell ?_ (by first | (simp; done) | (simp; omega)) _))).mono ?_; rintro e w5 ⟨v5, rfl, hown5, hb5⟩; rw [hxe.out.1, hxe.out.2] at hown5; obtain ⟨a5, c5, rfl⟩ := owns_slice hown5)
            all_goals
              have hbb : Below wr.heap.size wr w5 := Below.trans (by repeat (first | exact Below.refl _ _ | refine Below.drew ?_ | refine Below.alloc ?_ (by first | (simp; done) | (simp; omega)) _ | refine Below.setCell ?_ (by first | (simp; done) | (simp; omega)) _)) (hb5.mono (Nat.le_refl _))
              have Hbb := Lib.hid hbb
              have Htt := Lib.hid (HasT.of_owns hown5)
              clear hbb hown5 hb5
              go_wp2_with fail
              go_meet
              exact ⟨_, _, rfl, rfl, Hbb, Htt⟩
          case rest =>
          obtain ⟨a5, c5, rfl, rfl, B5, D5⟩ := hcut
          have HT5 := HT.out.on B5.out
          obtain ⟨sa, sc, rfl⟩ := owns_slice HT5.s.row
          clear CA b1 b2 b3 b4 p0
          replace b0 := cell_on B5.out b0
          replace x0 := cell_on B5.out x0
          clear x1 x2 x3 x4 x5 x6 x7 x8
          have CS := Lib.hid (cSend HT5 x hxo.out a5 c5 D5.out (by omega) (by rw [hel.out]; omega))
          rw [HXF.out, HXT.out] at CS
          have HT5' := Lib.hid HT5
          clear HT HT5 D5 B5
          go_upto_region 17 with (go_at_fn 60; refine CS.out.mono ?_; rintro e w6 ⟨rfl, own6, sa6, sc6, hT6, -⟩; obtain ⟨x0, x1, x2, x3, x4, x5, x6, x7, x8⟩ := hT6.g.at'.head; have b0 : w6.cell? ⟨w.heap.size, 0, none⟩ = some (.pointer (some ⟨X.W, 0, none⟩)) := (by rw [cell_of_row w6 _ _ _ _ _ hT6.b1.hb]; rfl))
          have HT6 : Hid (∃ sv, WTk w own w6 c X own6 (M + 1) (s1.more (preMsgs c s1 i ++ rowTo c s1 i 0)) sv (envs c.labs s1.ls.length (preMsgs c s1 i ++ rowTo c s1 i 0)) (.slice none 0 0) []) := by
            show ∃ sv, WTk _ _ _ _ _ _ _ _ _ _ _ _
            refine ⟨.slice sa6 ((envs c.labs s1.ls.length (preMsgs c s1 i)).length + 1) sc6, ?_⟩
            rw [rowTo_zero, hmsn.out, hesn.out, ← HX.out]
            rw [hml.out] at hT6
            exact hT6
          obtain ⟨sv6, HT6⟩ := HT6.out
          replace HT6 := Lib.hid HT6
          clear hT6 CS HT5'
          clear x0 x1 x2 x3 x4 x5 x6 x7 x8 b0 hxe hxo HX HXF HXT
          go_loopw [11, 12, 13, 90] (fun _ _ _ j wp => ∃ (q : Nat) (own' : Own) (sv : Value) (M : Nat), q ≤ c.n ∧ j = .int .i64 q ∧ M ≤ N + (preMsgs c s1 i ++ rowTo c s1 i q).length ∧ Hid (WTk w own wp c X own' M (s1.more (preMsgs c s1 i ++ rowTo c s1 i q)) sv (envs c.labs s1.ls.length (preMsgs c s1 i ++ rowTo c s1 i q)) (.slice none 0 0) [])) (fun _ _ _ j _ => c.n - (intOf j).toNat)
          case atStart => exact ⟨0, own6, _, M + 1, by omega, rfl, by rw [rowTo_zero, List.length_append]; simp only [List.length_singleton]; omega, HT6⟩
          case round =>
            clear HT6
            obtain ⟨q, own3, sv, M', hq, rfl, hM', HT⟩ := hrel
            by_cases hlt2 : q < c.n
            · have hltz2 : (q : Int) < (c.n : Int) := by omega
              by_cases hqi : q = i
              · have hne : ((q : Int) != (i : Int)) = false := by simp [hqi]
                have HT2 : Hid (WTk w own wr c X own3 M' (s1.more (preMsgs c s1 i ++ rowTo c s1 i (q + 1))) sv (envs c.labs s1.ls.length (preMsgs c s1 i ++ rowTo c s1 i (q + 1))) (.slice none 0 0) []) := by
                  have e : rowTo c s1 i (q + 1) = rowTo c s1 i q := by rw [hqi]; exact rowTo_eq c s1 i
                  show WTk _ _ _ _ _ _ _ _ _ _ _ _
                  rw [e]; exact HT.out
                have hM2 : M' ≤ N + (preMsgs c s1 i ++ rowTo c s1 i (q + 1)).length := by
                  have e : rowTo c s1 i (q + 1) = rowTo c s1 i q := by rw [hqi]; exact rowTo_eq c s1 i
                  rw [e]; exact hM'
                have HM2 := Lib.hid hM2
                clear HT hqi hM' hM2
                go_wp2_with fail
                go_roundw
                case rel => first | exact ⟨q + 1, own3, sv, M', by omega, by go_num, HM2.out, HT2⟩ | ((repeat apply Exists.intro); exact ⟨⟨q + 1, own3, sv, M', by omega, by go_num, HM2.out, HT2⟩, rfl⟩)
                case measure => first | (simp [intOf]; done) | (simp [intOf]; omega)
              · have hne : ((q : Int) != (i : Int)) = true := by simp; omega
                obtain ⟨x0, x1, x2, x3, x4, x5, x6, x7, x8⟩ := HT.out.g.at'.head
                have b0 : wr.cell? ⟨w.heap.size, 0, none⟩ = some (.pointer (some ⟨X.W, 0, none⟩)) := by rw [cell_of_row wr _ _ _ _ _ HT.out.b1.hb]; rfl
                obtain ⟨b1, b2, b3, b4⟩ := HT.out.g.at'.branch i HLT.out
                have hrlq := hrl.out i q
                have hll : (preMsgs c s1 i ++ rowTo c s1 i q).length ≤ 19 := by rw [List.length_append]; omega
                have CA : Hid (∀ Y, Below wr.heap.size wr Y → ∀ vs, StoreH Y (.slice (some ⟨X.T i, 0, none⟩) c.labs.length c.labs.length) c.labs.length vs (s1.st i) → _) := fun Y hY vs hvs => cRumour HC.out (HT.out.on hY).g.at'.fix.cfg i q HLT.out hlt2 (.slice (some ⟨X.T i, 0, none⟩) c.labs.length c.labs.length) vs (s1.st i) hvs
                have CST : Hid (∀ Y, Below wr.heap.size wr Y → ∃ vs, StoreH Y (.slice (some ⟨X.T i, 0, none⟩) c.labs.length c.labs.length) c.labs.length vs (s1.st i)) := fun Y hY => (HT.out.on hY).g.at'.storeH (K := K + 1) i HLT.out (fun j hj => HOK1.out.st i j HLT.out hj) hln
                have CB : Hid (∀ Y, Below wr.heap.size wr Y → _) := fun Y hY => CA.out Y hY _ (CST.out Y hY).choose_spec
                unfold Cfg.cells at CB
                obtain ⟨x, hx⟩ : ∃ y, y = rumMsg s1 i q := ⟨_, rfl⟩
                have hxe : Hid (recBytes (rumF c.labs i q (s1.st i)) = u8s (x.enc c.labs) ∧ recSize (rumF c.labs i q (s1.st i)) = (x.enc c.labs).length) := by rw [hx]; exact ⟨rfl, by rw [show (rumMsg s1 i q).enc c.labs = recB (rumF c.labs i q (s1.st i)) from rfl, recB_length]⟩
                have hxf : x.f = i := by rw [hx]; rfl
                have hxt : x.t = q := by rw [hx]; rfl
                have hxo : Hid ((x.ltr c.labs).Ok) := by
                  have h1 : (x.enc c.labs).length ≤ 256 := by
                    rw [← hxe.out.2, rum_size]
                    have := shr_len c.labs i q c.labs.length
                    omega
                  have := HLT.out
                  exact ⟨⟨by simp [Let.ltr], by simp only [Let.ltr]; omega⟩, ⟨by simp [Let.ltr], by simp only [Let.ltr]; omega⟩, h1⟩
                have HX := Lib.hid hx
                have HXF := Lib.hid hxf
                have HXT := Lib.hid hxt
                clear hx hxf hxt CA CST
                go_upto_region 20 with (fail)
                go_cut [12, 13] (fun v e wx => ∃ a5 c5, v = .slice a5 (x.enc c.labs).length c5 ∧ e = .int .i64 0 ∧ Hid (Below wr.heap.size wr wx) ∧ Hid (HasT wx 5 1 (.slice a5 (x.enc c.labs).length c5) (x.enc c.labs).length (u8s (x.enc c.labs))))
                case first =>
                  go_region_law (go_simp; go_at_call 64; refine (CB.out _ (by repeat (first | exact Below.refl _ _ | refine Below.drew ?_ | refine Below.alloc ?_ (by first | (simp; done) | (simp; omega)) _ | refine Below.setCell ?_ (by first | (simp; done) | (simp; omega)) _))).mono ?_; rintro e w5 ⟨v5, rfl, hown5, hb5⟩; rw [hxe.out.1, hxe.out.2] at hown5; obtain ⟨a5, c5, rfl⟩ := owns_slice hown5)
                  all_goals
                    have hbb : Below wr.heap.size wr w5 := Below.trans (by repeat (first | exact Below.refl _ _ | refine Below.drew ?_ | refine Below.alloc ?_ (by first | (simp; done) | (simp; omega)) _ | refine Below.setCell ?_ (by first | (simp; done) | (simp; omega)) _)) (hb5.mono (Nat.le_refl _))
                    have Hbb := Lib.hid hbb
                    have Htt := Lib.hid (HasT.of_owns hown5)
                    clear hbb hown5 hb5
                    go_wp2_with fail
                    go_meet
                    exact ⟨_, _, rfl, rfl, Hbb, Htt⟩
                case rest =>
                obtain ⟨a5, c5, rfl, rfl, B5, D5⟩ := hcut
                have HT5 := HT.out.on B5.out
                obtain ⟨sa, sc, rfl⟩ := owns_slice HT5.s.row
                clear CB b1 b2 b3 b4 b0 x0 x1 x2 x3 x4 x5 x6 x7 x8
                have CS := Lib.hid (cSend HT5 x hxo.out a5 c5 D5.out (by omega) (by rw [hel.out]; omega))
                rw [HXF.out, HXT.out] at CS
                clear HT HT5 D5 B5 hxe hxo
                go_wp2_with (go_at_fn 60; refine CS.out.mono ?_; rintro e w6 ⟨rfl, own6, sa6, sc6, hT6, -⟩)
                have hro := rowTo_ne c s1 i q hqi
                have HT6 : Hid (∃ sv, WTk w own w6 c X own6 (M' + 1) (s1.more (preMsgs c s1 i ++ rowTo c s1 i (q + 1))) sv (envs c.labs s1.ls.length (preMsgs c s1 i ++ rowTo c s1 i (q + 1))) (.slice none 0 0) []) := by
                  show ∃ sv, WTk _ _ _ _ _ _ _ _ _ _ _ _
                  refine ⟨.slice sa6 ((envs c.labs s1.ls.length (preMsgs c s1 i ++ rowTo c s1 i q)).length + 1) sc6, ?_⟩
                  rw [hro, ← List.append_assoc, hmsn.out, hesn.out, ← HX.out]
                  rw [hml.out] at hT6
                  exact hT6
                obtain ⟨sv6, HT6⟩ := HT6.out
                replace HT6 := Lib.hid HT6
                have hM2 : M' + 1 ≤ N + (preMsgs c s1 i ++ rowTo c s1 i (q + 1)).length := by
                  rw [hro]
                  simp only [List.length_append, List.length_singleton] at hM' ⊢
                  omega
                have HM2 := Lib.hid hM2
                clear hT6 CS hro hM' hM2 hqi HX HXF HXT
                go_wp2_with fail
                go_roundw
                case rel => first | exact ⟨q + 1, own6, sv6, M' + 1, by omega, by go_num, HM2.out, HT6⟩ | ((repeat apply Exists.intro); exact ⟨⟨q + 1, own6, sv6, M' + 1, by omega, by go_num, HM2.out, HT6⟩, rfl⟩)
                case measure => first | (simp [intOf]; done) | (simp [intOf]; omega)
            · obtain rfl : q = c.n := by omega
              have HT2 : Hid (WTk w own wr c X own3 M' (s1.more (preMsgs c s1 (i + 1))) sv (envs c.labs s1.ls.length (preMsgs c s1 (i + 1))) (.slice none 0 0) []) := by
                show WTk _ _ _ _ _ _ _ _ _ _ _ _
                rw [preMsgs_succ]; exact HT.out
              have hM2 : M' ≤ N + (preMsgs c s1 (i + 1)).length := by rw [preMsgs_succ]; exact hM'
              have HM2 := Lib.hid hM2
              clear HT hM' hM2
              have hlt' := HLT.out
              go_wp2_with fail
              go_roundw
              case rel => first | exact ⟨i + 1, own3, sv, M', by omega, by go_num, HM2.out, HT2⟩ | ((repeat apply Exists.intro); exact ⟨⟨i + 1, own3, sv, M', by omega, by go_num, HM2.out, HT2⟩, rfl⟩)
              case measure => first | (simp [intOf]; done) | (simp [intOf]; omega)
        · obtain rfl : i = c.n := by omega
          obtain ⟨s2, hs2⟩ : ∃ y, y = s1.more (preMsgs c s1 c.n) := ⟨_, rfl⟩
          obtain ⟨l2, hl2⟩ : ∃ y, y = envs c.labs s1.ls.length (preMsgs c s1 c.n) := ⟨_, rfl⟩
          rw [← hs2, ← hl2] at HT
          have HS2 := Lib.hid hs2
          have HL2 := Lib.hid hl2
          have hbk2 : Hid (∀ k, k < c.items → BkOk c.n (s2.bk k) ∧ (s2.bk k).round ≤ 1000) := fun k hk => by rw [hs2]; exact ⟨HOK1.out.bk k hk, hbr.out k hk⟩
          have hrs := Lib.hid (rnd_succ s2)
          have hra := Lib.hid (rnd_at s2)
          have hrz := Lib.hid (rnd_zero s2)
          have hgs := Lib.hid (givL_succ s2)
          have hgl := Lib.hid (givL_length s2)
          have hrpl := Lib.hid (repTo_length s2)
          have hry := Lib.hid (repTo_yes s2)
          have hrn := Lib.hid (repTo_no s2)
          have hmk : ∀ Y : World, (Instr.makeSlice 139 (.int .i64 (c.n : Int)) (.int .i64 (c.n : Int))).run Tryz.prog Y = .ok (.slice (some ⟨Y.heap.size, 0, none⟩) c.n c.n) (Y.alloc (.cells (List.replicate c.n (Value.slice none 0 0)).toArray 22)) := fun Y => run_mk infoIntRows Tryz.underlying139 rfl Y c.n (by omega) (by omega)
          generalize hA : (List.replicate c.n (Value.slice none 0 0)).toArray = A at hmk
          have HA := Lib.hid hA
          clear hA hs2 hl2
          obtain ⟨x0, x1, x2, x3, x4, x5, x6, x7, x8⟩ := HT.out.g.at'.head
          have b0 : wr.cell? ⟨w.heap.size, 0, none⟩ = some (.pointer (some ⟨X.W, 0, none⟩)) := by rw [cell_of_row wr _ _ _ _ _ HT.out.b1.hb]; rfl
          go_upto_region 25 with (fail)
          clear hmk
          have hbA : Below wr.heap.size wr (wr.alloc (.cells A 22)) := (Below.refl _ _).alloc (Nat.le_refl _) _
          have HT0 := Lib.hid (HT.out.on hbA)
          have hwR : w.heap.size + 2 ≤ wr.heap.size := HT.out.r.lt
          have HG0 : Hid (Mine own2 (wr.alloc (.cells A 22)) wr.heap.size (.cells ((List.range c.n).map fun _ => Value.slice none 0 0).toArray 22 (0, 0))) := by
            refine ⟨HT.out.g.none (Nat.le_refl _), ?_⟩
            rw [heap_alloc_new, ← HA.out, List.map_const', List.length_range]
          have HR0 : Hid (RowsAt (wr.alloc (.cells A 22)) own2 (w.heap.size + 2) (c.n + 2) (fun _ => .slice none 0 0) (fun _ => [])) := ⟨fun i hi => ⟨World.ownsRow_nil _ _ _ _, fun g hg => by cases hg⟩, fun i j _ _ _ g hg => by cases hg⟩
          replace b0 := cell_on hbA b0
          replace x6 := cell_on hbA x6
          clear x0 x1 x2 x3 x4 x5 x7 x8 hbA HA HT
          generalize wr.alloc (.cells A 22) = W3 at *
          generalize wr.heap.size = G at *
          go_upto_region 26 with (fail)
          clear b0 x6
          go_loopw [16, 17, 18, 129] (fun _ _ _ j wq => ∃ (k : Nat) (own' : Own) (rv : Value) (gv : Nat → Value) (f : Nat → List Int), k ≤ c.items ∧ j = .int .i64 k ∧ Hid (WTk w own wq c X own' M (s2.rnd k) sv l2 rv (repTo s2 k)) ∧ Hid (Mine own' wq G (.cells ((List.range c.n).map gv).toArray 22 (0, 0))) ∧ Hid (RowsAt wq own' (w.heap.size + 2) (c.n + 2) gv f) ∧ Hid (∀ i, i < c.n → f i = givL s2 k i) ∧ Hid (f c.n = repTo s2 k ∧ gv c.n = rv)) (fun _ _ _ j _ => c.items - (intOf j).toNat)
          case atStart => exact ⟨0, own2, _, _, _, by omega, rfl, by show WTk _ _ _ _ _ _ _ _ _ _ _ _; rw [hrz.out]; exact HT0.out, HG0, HR0, fun i hi => rfl, ⟨rfl, rfl⟩⟩
          case round =>
            clear HT0 HG0 HR0
            obtain ⟨k, own3, rv, gv, f, hk, rfl, HT, HG, HRW, HF, HFN⟩ := hrel
            by_cases hlt : k < c.items
            · have hltz : (k : Int) < (c.items : Int) := by omega
              have HLT := Lib.hid hlt
              have p0 := (HT.out.g.at'.bptr k hlt).1
              have CR : Hid (∀ Y, Below wr.heap.size wr Y → _) := fun Y hY => cRoundW (HT.out.on hY).g.at' k HLT.out (by rw [hra.out]; exact (hbk2.out k HLT.out).1) (by omega) (by omega) (by rw [hra.out]; exact (hbk2.out k HLT.out).2)
              rw [hra.out] at CR
              have hgln : Hid ((s2.bk k).rounded.granted.length = c.n) := (hbk2.out k hlt).1.rounded.lg
              have hrk := Lib.hid (hrs.out k)
              rw [hra.out] at hrk
              have hgk := Lib.hid (hgs.out k)
              have hryk := Lib.hid (hry.out k)
              have hrnk := Lib.hid (hrn.out k)
              go_wp2_with fail
              refine (CR.out _ (by repeat (first | exact Below.refl _ _ | refine Below.drew ?_ | refine Below.alloc ?_ (by first | (simp; done) | (simp; omega)) _ | refine Below.setCell ?_ (by first | (simp; done) | (simp; omega)) _))).mono ?_
              rintro e w5 ⟨v5, own5, rfl, hown5, hW5, hU5, hfr5⟩
              obtain ⟨a5, c5, rfl⟩ := owns_slice hown5
              have hT5 := HT.out.step hW5 hU5
              rw [← hrk.out] at hT5
              have HT5 := Lib.hid hT5
              have HG5 := Lib.hid (HG.out.went hU5)
              have HRW5 := Lib.hid (HRW.out.fresh hU5 (by have := HT.out.r.lt; omega) (c.n + 1) (by omega) hown5 hfr5)
              clear hW5 hU5 hown5 hfr5 hT5 CR HT HG HRW p0
              rw [hgln.out] at HRW5 ⊢
              generalize (s2.bk k).report = rep at *
              generalize (s2.bk k).rounded.granted = gr at *
              go_upto_if 139 with (fail)
              go_cut [] (fun wx => ∃ (rv : Value) (gv : Nat → Value) (f : Nat → List Int), Hid (WTk w own wx c X own5 M (s2.rnd (k + 1)) sv l2 rv (repTo s2 (k + 1))) ∧ Hid (Mine own5 wx G (.cells ((List.range c.n).map gv).toArray 22 (0, 0))) ∧ Hid (RowsAt wx own5 (w.heap.size + 2) (c.n + 2) gv f) ∧ Hid (∀ i, i < c.n → f i = givL s2 k i) ∧ Hid (f c.n = repTo s2 (k + 1) ∧ gv c.n = rv) ∧ Hid (f (c.n + 1) = gr ∧ gv (c.n + 1) = .slice a5 c.n c5))
              case first =>
                by_cases hrep : 0 ≤ rep
                · have hrb : decide (0 ≤ rep) = true := decide_eq_true hrep
                  have hry2 := Lib.hid (hryk.out hrep)
                  have hrlen := hrpl.out k
                  obtain ⟨ra, rc, hrv⟩ := owns_slice HT5.out.p.row
                  have HROW := Lib.hid (own_base HT5.out.p.row)
                  obtain ⟨⟨-, -, -, -, -, -, -, -, -, -, z10⟩, zf⟩ := eleven_at HT5.out.r.hb
                  have zf10 := zf 10
                  rw [hrv] at z10 HROW
                  have HRV := Lib.hid hrv
                  clear zf hrv hryk hrnk
                  have m1 := World.block_lt_of_cell? w5 _ z10
                  go_wp2_with (first | fail | (at_builtin; refine wp_appF (w0 := w5) 22 3 1 8 _ elInt Tryz.underlying22 (.slice ra (repTo s2 k).length rc) (repTo s2 k).length (ints (repTo s2 k)) HROW.out (by repeat (first | exact Below.refl _ _ | refine Below.drew ?_ | refine Below.alloc ?_ (by first | (simp; done) | (simp; omega)) _ | refine Below.setCell ?_ (by first | (simp; done) | (simp; omega)) _)) _ 1 [.int .i64 rep] (has_block (wp := w5) (by first | exact heap_alloc_new _ _ | (simp only [heap_drew, heap_drewN]; exact heap_alloc_new _ _)) rfl (by rfl) (by decide)) rfl _ _ rfl rfl rfl (by simp [Value.oneCell']) (by omega) (by unfold maxLen; omega) ?_; intro v6 w6 hown6 hat6 hgrow6; obtain ⟨a6, c6, rfl⟩ := owns_slice hown6; obtain ⟨u10, uf10⟩ := tell_cell HT5.out (by rw [HRV.out]; exact hgrow6)))
                  rw [← HRV.out] at hat6 hgrow6
                  have hT6 := HT5.out.told rep hown6 hat6 hgrow6
                  have hn1 : updF gv (c.n + 1) (.slice a5 c.n c5) c.n = rv := by rw [updF_ne _ _ (by omega)]; exact HFN.out.2
                  have hn2 : updF f (c.n + 1) gr c.n = repTo s2 k := by rw [updF_ne _ _ (by omega)]; exact HFN.out.1
                  have hR6 := (HRW5.out.app HT5.out.g.at'.lt (by have := HT5.out.r.lt; omega) c.n (by omega) (x := rep) (by rw [hn2]; exact hown6) (by rw [hn1]; exact hat6) (by rw [hn1]; exact hgrow6)).set (R := w.heap.size + 1) (by omega) 10 (.slice a6 ((repTo s2 k).length + 1) c6)
                  have hG6 : Mine own5 (w6.setCell ⟨w.heap.size + 1, 10, none⟩ (.slice a6 ((repTo s2 k).length + 1) c6)) G (.cells ((List.range c.n).map (updF (updF gv (c.n + 1) (.slice a5 c.n c5)) c.n (.slice a6 ((repTo s2 k).length + 1) c6))).toArray 22 (0, 0)) := by
                    have e : (List.range c.n).map (updF (updF gv (c.n + 1) (.slice a5 c.n c5)) c.n (.slice a6 ((repTo s2 k).length + 1) c6)) = (List.range c.n).map gv := by
                      apply List.map_congr_left
                      intro x hx
                      have := List.mem_range.1 hx
                      rw [updF_ne _ _ (by omega), updF_ne _ _ (by omega)]
                    rw [e]
                    exact (HG5.out.grown hgrow6 (HT5.out.p.notG HG5.out.hb (by decide))).other (by simp only; omega) _
                  rw [← hry2.out] at hT6
                  have HT6 := Lib.hid hT6
                  have HR6 := Lib.hid hR6
                  have HG6 := Lib.hid hG6
                  have HFN6 : Hid (updF (updF f (c.n + 1) gr) c.n (updF f (c.n + 1) gr c.n ++ [rep]) c.n = repTo s2 (k + 1) ∧ updF (updF gv (c.n + 1) (.slice a5 c.n c5)) c.n (.slice a6 ((repTo s2 k).length + 1) c6) c.n = .slice a6 ((repTo s2 k).length + 1) c6) := by
                    refine ⟨?_, by rw [updF_same]⟩
                    rw [updF_same, hn2, hry2.out]
                  have HF6 : Hid (∀ i, i < c.n → updF (updF f (c.n + 1) gr) c.n (updF f (c.n + 1) gr c.n ++ [rep]) i = givL s2 k i) := fun i hi => by rw [updF_ne _ _ (by omega), updF_ne _ _ (by omega)]; exact HF.out i hi
                  have HL6 : Hid (updF (updF f (c.n + 1) gr) c.n (updF f (c.n + 1) gr c.n ++ [rep]) (c.n + 1) = gr ∧ updF (updF gv (c.n + 1) (.slice a5 c.n c5)) c.n (.slice a6 ((repTo s2 k).length + 1) c6) (c.n + 1) = .slice a5 c.n c5) := ⟨by rw [updF_ne _ _ (by omega), updF_same], by rw [updF_ne _ _ (by omega), updF_same]⟩
                  clear hT6 hR6 hG6 hn1 hn2 hown6 hat6 hgrow6 u10 uf10 HROW HT5 HG5 HRW5
                  go_wp2_with fail
                  go_meet
                  exact ⟨_, _, _, HT6, HG6, HR6, HF6, HFN6, HL6⟩
                · have hrb : decide (0 ≤ rep) = false := decide_eq_false hrep
                  have hrn2 := Lib.hid (hrnk.out (by omega))
                  have HT6 : Hid (WTk w own w5 c X own5 M (s2.rnd (k + 1)) sv l2 rv (repTo s2 (k + 1))) := by
                    show WTk _ _ _ _ _ _ _ _ _ _ _ _
                    rw [hrn2.out]; exact HT5.out
                  have HG6 : Hid (Mine own5 w5 G (.cells ((List.range c.n).map (updF gv (c.n + 1) (.slice a5 c.n c5))).toArray 22 (0, 0))) := by
                    have e : (List.range c.n).map (updF gv (c.n + 1) (.slice a5 c.n c5)) = (List.range c.n).map gv := by
                      apply List.map_congr_left
                      intro x hx
                      have := List.mem_range.1 hx
                      rw [updF_ne _ _ (by omega)]
                    show Mine _ _ _ _
                    rw [e]; exact HG5.out
                  have HFN6 : Hid (updF f (c.n + 1) gr c.n = repTo s2 (k + 1) ∧ updF gv (c.n + 1) (.slice a5 c.n c5) c.n = rv) := ⟨by rw [updF_ne _ _ (by omega), hrn2.out]; exact HFN.out.1, by rw [updF_ne _ _ (by omega)]; exact HFN.out.2⟩
                  have HF6 : Hid (∀ i, i < c.n → updF f (c.n + 1) gr i = givL s2 k i) := fun i hi => by rw [updF_ne _ _ (by omega)]; exact HF.out i hi
                  have HL6 : Hid (updF f (c.n + 1) gr (c.n + 1) = gr ∧ updF gv (c.n + 1) (.slice a5 c.n c5) (c.n + 1) = .slice a5 c.n c5) := ⟨by rw [updF_same], by rw [updF_same]⟩
                  clear HT5 HG5 hryk hrnk
                  go_wp2_with fail
                  go_meet
                  exact ⟨_, _, _, HT6, HG6, HRW5, HF6, HFN6, HL6⟩
              case rest =>
              clear HT5 HG5 HRW5 HF HFN hryk hrnk
              obtain ⟨rv, gv, f, HT, HG, HRW, HF, HFN, HFL⟩ := hcut
              have hkk := HLT.out
              go_wp2_with fail
              go_loopw [19, 20, 148] (fun _ _ j wq => ∃ (i : Nat) (gv : Nat → Value) (f : Nat → List Int), i ≤ c.n ∧ j = .int .i64 i ∧ Hid (WTk w own wq c X own5 M (s2.rnd (k + 1)) sv l2 rv (repTo s2 (k + 1))) ∧ Hid (Mine own5 wq G (.cells ((List.range c.n).map gv).toArray 22 (0, 0))) ∧ Hid (RowsAt wq own5 (w.heap.size + 2) (c.n + 2) gv f) ∧ Hid (∀ j, j < c.n → f j = if j < i then givL s2 (k + 1) j else givL s2 k j) ∧ Hid (f c.n = repTo s2 (k + 1) ∧ gv c.n = rv) ∧ Hid (f (c.n + 1) = gr ∧ gv (c.n + 1) = .slice a5 c.n c5)) (fun _ _ j _ => c.n - (intOf j).toNat)
              case atStart => exact ⟨0, gv, f, by omega, rfl, HT, HG, HRW, fun j hj => by rw [if_neg (by omega)]; exact HF.out j hj, HFN, HFL⟩
              case round =>
                clear HT HG HRW HF HFN HFL
                obtain ⟨i, gv2, f2, hi, rfl, HT, HG, HRW, HF, HFN, HFL⟩ := hrel
                by_cases hli : i < c.n
                · have hliz : (i : Int) < (c.n : Int) := by omega
                  have hrowl := Has.of_owns (HRW.out.rows (c.n + 1) (by omega)).row
                  rw [HFL.out.1, HFL.out.2] at hrowl
                  obtain ⟨⟨hl0, _⟩, _, _, he, _, _, hcc⟩ := hrowl
                  simp only [Value.slice.injEq] at he
                  obtain ⟨rfl, -, rfl⟩ := he
                  have hgrl := hgln.out
                  obtain ⟨b, o, rfl, hcell⟩ := hcc (by simp; omega)
                  have hig : i < gr.length := by omega
                  have z0 := hcell i _ (ints_get gr i hig)
                  have hgd : Hid (gr[i] = gr.getD i 0) := by show _ = _; simp [List.getD_eq_getElem?_getD, hig]
                  have hfi : f2 i = givL s2 k i := by have := HF.out i hli; rw [if_neg (by omega)] at this; exact this
                  have hfl : (f2 i).length = k := by rw [hfi]; exact hgl.out k i
                  obtain ⟨ga, gc, hgv⟩ := owns_slice (HRW.out.rows i (by omega)).row
                  have HROW := Lib.hid (own_base (HRW.out.rows i (by omega)).row)
                  rw [hgv, hfl] at HROW
                  rw [hfl] at hgv
                  have g0 : wr.cell? ⟨G, i, none⟩ = some (.slice ga k gc) := by
                    rw [cell_of_row wr _ _ _ _ _ HG.out.hb]
                    simp [hli, hgv]
                  have gf : wr.frozen? ⟨G, i, none⟩ = false := by simp [World.frozen?, HG.out.hb]
                  have hgc : k ≤ gc ∧ gc ≤ 2 ^ 63 - 1 := by
                    obtain ⟨_, _, _, he, h1, h2, _⟩ := Has.of_owns HROW.out
                    simp only [Value.slice.injEq] at he
                    obtain ⟨-, -, rfl⟩ := he
                    unfold maxLen at h2
                    exact ⟨h1, h2⟩
                  generalize gr[i] = y at *
                  have HGV := Lib.hid hgv
                  have HFI := Lib.hid hfi
                  have hwG : w.heap.size + 2 ≤ G := hwR
                  have lG := World.block_lt_of_cell? wr _ g0
                  clear hl0 hcc hcell hgv hfi
                  go_wp2_with (first | fail | (at_builtin; refine wp_appF (w0 := wr) 22 3 1 8 _ elInt Tryz.underlying22 (.slice ga k gc) k (ints (f2 i)) HROW.out (by repeat (first | exact Below.refl _ _ | refine Below.drew ?_ | refine Below.alloc ?_ (by first | (simp; done) | (simp; omega)) _ | refine Below.setCell ?_ (by first | (simp; done) | (simp; omega)) _)) _ 1 [.int .i64 y] (has_block (wp := wr) (by first | exact heap_alloc_new _ _ | (simp only [heap_drew, heap_drewN]; exact heap_alloc_new _ _)) rfl (by rfl) (by decide)) rfl _ _ rfl rfl rfl (by simp [Value.oneCell']) (by omega) (by unfold maxLen; omega) ?_; intro v6 w6 hown6 hat6 hgrow6; obtain ⟨a6, c6, rfl⟩ := owns_slice hown6; obtain ⟨u0, uf0⟩ := giv_cell HRW.out HG.out i (by omega) (by rw [HGV.out]; exact hgrow6) g0 gf))
                  rw [← HGV.out] at hat6 hgrow6
                  have hM6 := HG.out.grown hgrow6 ((HRW.out.rows i (by omega)).notG HG.out.hb (by decide))
                  have hT6 := (HT.out.grown HRW.out i c.n (by omega) (by omega) (by omega) HFN.out.2 hgrow6).setG hM6 hwG i (.slice a6 (k + 1) c6)
                  have hR6 := (HRW.out.app HT.out.g.at'.lt (by have := HT.out.r.lt; omega) i (by omega) (x := y) (by rw [hfl]; exact hown6) hat6 hgrow6).setG hM6.hb i (.slice a6 (k + 1) c6)
                  have hG6 := hM6.set (r := (0, 0)) i (.slice a6 (k + 1) c6)
                  rw [map_updF] at hG6
                  have HT6 := Lib.hid hT6
                  have HR6 := Lib.hid hR6
                  have HG6 := Lib.hid hG6
                  have HF6 : Hid (∀ j, j < c.n → updF f2 i (f2 i ++ [y]) j = if j < i + 1 then givL s2 (k + 1) j else givL s2 k j) := fun j hj => by
                    by_cases e : j = i
                    · subst e
                      rw [updF_same, if_pos (by omega), hgk.out j, HFI.out, hgd.out]
                    · rw [updF_ne _ _ e, HF.out j hj]
                      by_cases h : j < i
                      · rw [if_pos h, if_pos (by omega)]
                      · rw [if_neg h, if_neg (by omega)]
                  have HFN6 : Hid (updF f2 i (f2 i ++ [y]) c.n = repTo s2 (k + 1) ∧ updF gv2 i (.slice a6 (k + 1) c6) c.n = rv) := ⟨by rw [updF_ne _ _ (by omega)]; exact HFN.out.1, by rw [updF_ne _ _ (by omega)]; exact HFN.out.2⟩
                  have HFL6 : Hid (updF f2 i (f2 i ++ [y]) (c.n + 1) = gr ∧ updF gv2 i (.slice a6 (k + 1) c6) (c.n + 1) = .slice (some ⟨b, o, none⟩) c.n c5) := ⟨by rw [updF_ne _ _ (by omega)]; exact HFL.out.1, by rw [updF_ne _ _ (by omega)]; exact HFL.out.2⟩
                  clear hT6 hR6 hG6 hM6 hown6 hat6 hgrow6 u0 uf0 HROW HT HG HRW z0 g0 gf HF HFN
                  go_wp2_with fail
                  go_roundw
                  case rel => first | exact ⟨i + 1, _, _, by omega, by go_num, HT6, HG6, HR6, HF6, HFN6, HFL6⟩ | ((repeat apply Exists.intro); exact ⟨⟨i + 1, _, _, by omega, by go_num, HT6, HG6, HR6, HF6, HFN6, HFL6⟩, rfl⟩)
                  case measure => first | (simp [intOf]; done) | (simp [intOf]; omega)
                · obtain rfl : i = c.n := by omega
                  have HF6 : Hid (∀ j, j < c.n → f2 j = givL s2 (k + 1) j) := fun j hj => by have := HF.out j hj; rw [if_pos hj] at this; exact this
                  clear HF HFL
                  go_wp2_with fail
                  go_roundw
                  case rel => first | exact ⟨k + 1, own5, rv, gv2, f2, by omega, by go_num, HT, HG, HRW, HF6, HFN⟩ | ((repeat apply Exists.intro); exact ⟨⟨k + 1, own5, rv, gv2, f2, by omega, by go_num, HT, HG, HRW, HF6, HFN⟩, rfl⟩)
                  case measure => first | (simp [intOf]; done) | (simp [intOf]; omega)
            · obtain rfl : k = c.items := by omega
              have hkc : Hid (∀ i, i < c.n → ∀ x ∈ givL s2 c.items i, 0 ≤ x ∧ x ≤ 1048576) := fun i hi x hx => by
                obtain ⟨k', hk', rfl⟩ := List.mem_map.1 hx
                exact granted_bd (hbk2.out k' (List.mem_range.1 hk')).1.rounded i
              obtain ⟨s3, hs3⟩ : ∃ y, y = s2.rnd c.items := ⟨_, rfl⟩
              rw [← hs3] at HT
              have HS3 := Lib.hid hs3
              have hm30 := Lib.hid (more_nil s3)
              have hm3l := Lib.hid (fun l => more_length s3 l)
              have hm3s := Lib.hid (fun l x => more_snoc s3 l x)
              have hs3l : Hid (s3.ls.length = s1.ls.length + (preMsgs c s1 c.n).length) := by rw [hs3, ← hml.out, ← HS2.out]; rfl
              have hgts := Lib.hid (fun i => giveTo_succ c s2 i)
              have hgtl : Hid (∀ i, (giveTo c s2 i).length = i) := fun i => by unfold giveTo; simp
              have hpn := hpl.out c.n
              have hpi : c.n * (c.n + 1) ≤ 16 + c.n := by
                have : c.n * c.n ≤ 4 * 4 := Nat.mul_le_mul hn.2 hn.2
                rw [Nat.mul_add, Nat.mul_one]; omega
              have HT2 : Hid (WTk w own wr c X own3 M (s3.more (giveTo c s2 0)) sv (envs c.labs s1.ls.length (preMsgs c s1 c.n ++ giveTo c s2 0)) rv (repTo s2 c.items)) := by
                show WTk _ _ _ _ _ _ _ _ _ _ _ _
                rw [show giveTo c s2 0 = [] from rfl, hm30.out, List.append_nil, ← HL2.out]; exact HT.out
              clear HT hs3
              go_wp2_with fail
              go_loopw [21, 22, 23, 24, 167] (fun _ _ _ _ j wq => ∃ (i : Nat) (own' : Own) (sv : Value) (M' : Nat), i ≤ c.n ∧ j = .int .i64 i ∧ M' ≤ M + i ∧ Hid (WTk w own wq c X own' M' (s3.more (giveTo c s2 i)) sv (envs c.labs s1.ls.length (preMsgs c s1 c.n ++ giveTo c s2 i)) rv (repTo s2 c.items)) ∧ Hid (Mine own' wq G (.cells ((List.range c.n).map gv).toArray 22 (0, 0))) ∧ Hid (RowsAt wq own' (w.heap.size + 2) (c.n + 2) gv f)) (fun _ _ _ _ j _ => c.n - (intOf j).toNat)
              case atStart => exact ⟨0, own3, sv, M, by omega, rfl, by omega, HT2, HG, HRW⟩
              case round =>
                clear HT2 HG HRW
                obtain ⟨i, own4, sv, M', hi, rfl, hM', HT, HG, HRW⟩ := hrel
                by_cases hli : i < c.n
                · have hliz : (i : Int) < (c.n : Int) := by omega
                  have HLI := Lib.hid hli
                  have hfi := HF.out i hli
                  have hfl : (f i).length = c.items := by rw [hfi]; exact hgl.out c.items i
                  obtain ⟨ga, gc, hgv⟩ := owns_slice (HRW.out.rows i (by omega)).row
                  have HV : Hid (Has wr 1 (.slice ga c.items gc) (givL s2 c.items i).length (ints (givL s2 c.items i))) := by
                    have q := Has.of_owns (HRW.out.rows i (by omega)).row
                    rw [hgv, hfi] at q
                    rw [hgl.out] at q ⊢
                    exact q
                  rw [hfl] at hgv
                  have g0 : wr.cell? ⟨G, i, none⟩ = some (.slice ga c.items gc) := by
                    rw [cell_of_row wr _ _ _ _ _ HG.out.hb]
                    simp [hli, hgv]
                  obtain ⟨x0, x1, x2, x3, x4, x5, x6, x7, x8⟩ := HT.out.g.at'.head
                  have b0 : wr.cell? ⟨w.heap.size, 0, none⟩ = some (.pointer (some ⟨X.W, 0, none⟩)) := by rw [cell_of_row wr _ _ _ _ _ HT.out.b1.hb]; rfl
                  have CA : Hid (∀ Y, Below wr.heap.size wr Y → _) := fun Y hY => cAsks HC.out (HT.out.on hY).g.at'.fix.cfg (.slice ga c.items gc) (givL s2 c.items i) (HV.out.below hY) (hkc.out i HLI.out) (hgl.out c.items i)
                  unfold Cfg.cells at CA
                  obtain ⟨x, hx⟩ : ∃ y, y = giveMsg c s2 i := ⟨_, rfl⟩
                  have hxe : Hid (recBytes (askF (givL s2 c.items i)) = u8s (x.enc c.labs) ∧ recSize (askF (givL s2 c.items i)) = (x.enc c.labs).length) := by rw [hx]; exact ⟨rfl, by rw [show (giveMsg c s2 i).enc c.labs = recB (askF (givL s2 c.items i)) from rfl, recB_length]⟩
                  have hxf : x.f = c.n := by rw [hx]; rfl
                  have hxt : x.t = i := by rw [hx]; rfl
                  have hxo : Hid ((x.ltr c.labs).Ok) := by
                    have h1 : (x.enc c.labs).length ≤ 256 := by rw [← hxe.out.2, askF_size, hgl.out]; omega
                    exact ⟨⟨by simp [Let.ltr], by simp only [Let.ltr]; omega⟩, ⟨by simp [Let.ltr], by simp only [Let.ltr]; omega⟩, h1⟩
                  have hll : (preMsgs c s1 c.n ++ giveTo c s2 i).length ≤ 28 := by rw [List.length_append, hgtl.out]; omega
                  have HX := Lib.hid hx
                  have HXF := Lib.hid hxf
                  have HXT := Lib.hid hxt
                  clear hx hxf hxt hfi hfl hgv
                  go_wp2_with fail
                  refine (CA.out _ (by repeat (first | exact Below.refl _ _ | refine Below.drew ?_ | refine Below.alloc ?_ (by first | (simp; done) | (simp; omega)) _ | refine Below.setCell ?_ (by first | (simp; done) | (simp; omega)) _))).mono ?_
                  rintro e w5 ⟨v5, rfl, hown5, hb5⟩
                  rw [hxe.out.1, hxe.out.2] at hown5
                  obtain ⟨a5, c5, rfl⟩ := owns_slice hown5
                  have D5 := HasT.of_owns hown5
                  have HT5 := HT.out.on hb5
                  have HG5 := Lib.hid (HG.out.on hb5)
                  have HR5 := Lib.hid (HRW.out.on hb5)
                  obtain ⟨sa, sc, rfl⟩ := owns_slice HT5.s.row
                  obtain ⟨ra, rc, rfl⟩ := owns_slice HT5.p.row
                  replace b0 := cell_on hb5 b0
                  replace x0 := cell_on hb5 x0
                  have CS := Lib.hid (cSend HT5 x hxo.out a5 c5 D5 (by omega) (by rw [hel.out]; omega))
                  rw [HXF.out, HXT.out] at CS
                  have HS5 := Lib.hid HT5.s
                  have hG8 : G ≠ w.heap.size + 1 := by omega
                  clear HT HT5 D5 hb5 hown5 hxe hxo HG HRW HV CA g0 x1 x2 x3 x4 x5 x6 x7 x8
                  go_wp2_with (go_at_fn 60; refine CS.out.mono ?_; rintro e w6 ⟨rfl, own6, sa6, sc6, hT6, hfr6⟩)
                  have HT6 : Hid (∃ sv, WTk w own w6 c X own6 (M' + 1) (s3.more (giveTo c s2 (i + 1))) sv (envs c.labs s1.ls.length (preMsgs c s1 c.n ++ giveTo c s2 (i + 1))) (.slice ra (repTo s2 c.items).length rc) (repTo s2 c.items)) := by
                    show ∃ sv, WTk _ _ _ _ _ _ _ _ _ _ _ _
                    refine ⟨.slice sa6 ((envs c.labs s1.ls.length (preMsgs c s1 c.n ++ giveTo c s2 i)).length + 1) sc6, ?_⟩
                    rw [hgts.out, ← List.append_assoc, hm3s.out, hesn.out, ← HX.out, List.length_append, ← Nat.add_assoc, ← hs3l.out]
                    rw [hm3l.out] at hT6
                    exact hT6
                  obtain ⟨sv6, HT6⟩ := HT6.out
                  replace HT6 := Lib.hid HT6
                  have HG6 := Lib.hid (hfr6 _ _ HG5.out hG8 (HS5.out.notG HG5.out.hb (by decide)))
                  have HR6 := Lib.hid (HR5.out.framed HS5.out hfr6)
                  clear hT6 hfr6 CS HG5 HR5 HS5 b0 x0 HX HXF HXT
                  go_wp2_with fail
                  go_roundw
                  case rel => first | exact ⟨i + 1, own6, sv6, M' + 1, by omega, by go_num, by omega, HT6, HG6, HR6⟩ | ((repeat apply Exists.intro); exact ⟨⟨i + 1, own6, sv6, M' + 1, by omega, by go_num, by omega, HT6, HG6, HR6⟩, rfl⟩)
                  case measure => first | (simp [intOf]; done) | (simp [intOf]; omega)
                · obtain rfl : i = c.n := by omega
                  have hrlq := hrl.out
                  have hfin : WAt wr c X own4 (N + 20) (s.ticked c) := by
                    have q := (HT.out.g.at'.bkCongr (fun k => (s2.bk k).rounded) (fun k hk => by rw [HS3.out]; unfold Wld.more Wld.rnd; exact (if_pos hk).symm)).moreN (M := N + 20) (by
                      have hp := preMsgs_len c s1 c.n (Nat.le_refl _)
                      have : c.n * c.n ≤ 4 * 4 := Nat.mul_le_mul hn.2 hn.2
                      omega)
                    have e : ({ s3.more (giveTo c s2 c.n) with bk := fun k => (s2.bk k).rounded } : Wld) = s.ticked c := by
                      rw [HS3.out, HS2.out, HS1.out]
                      unfold Wld.more Wld.rnd Wld.ticked
                      rw [tickMsgs_eq]
                      simp only [List.append_assoc]
                      rfl
                    rw [e] at q; exact q
                  have hsent : envs c.labs s1.ls.length (preMsgs c s1 c.n ++ giveTo c s2 c.n) = envs c.labs s.ls.length (tickMsgs c s) := by
                    rw [HS2.out, HS1.out, tickMsgs_eq]; rfl
                  have hrep : repTo s2 c.items = reportsOf c s := by rw [HS2.out, HS1.out]; rfl
                  have T9 := HT.out.same hfin
                  rw [hsent, hrep] at T9
                  obtain ⟨sa, sc, rfl⟩ := owns_slice T9.s.row
                  obtain ⟨ra, rc, rfl⟩ := owns_slice T9.p.row
                  have hfr : ∀ {e : TypeId} {sz n : Nat} {v : Value} {xs : List Value}, Mrow wr own4 (w.heap.size + 2) e sz v n xs → InF (Fr own4 wr) v := fun q b off n' c' hv => by
                    subst hv
                    have h1 := owns_block_of q.row (g := b) rfl
                    exact ⟨q.free b rfl, h1.2.1⟩
                  have hfa : ∀ {e : TypeId} {sz n : Nat} {v : Value} {xs : List Value}, Mrow wr own4 (w.heap.size + 2) e sz v n xs → InF (fun b => w.heap.size + 2 ≤ b) v := fun q b off n' c' hv => by
                    subst hv
                    exact (owns_block_of q.row (g := b) rfl).1
                  have hta : TldAt wr own4 { noT 0 with sent := envs c.labs s.ls.length (tickMsgs c s), report := reportsOf c s } (.slice sa (envs c.labs s.ls.length (tickMsgs c s)).length sc) nil0 (.slice ra (reportsOf c s).length rc) :=
                    ⟨Has.of_owns T9.s.row, nil0_has _ 1, Has.of_owns T9.p.row, hfr T9.s, nil0_in _, hfr T9.p⟩
                  have HTF := Lib.hid (fun x0 x1 x2 x3 x4 x5 x6 x7 x8 x9 x10 => tick_put hta (hfa T9.s) (hfa T9.p) x0 x1 x2 x3 x4 x5 x6 x7 x8 x9 x10)
                  have HFar : Hid (Far w (.slice sa (envs c.labs s.ls.length (tickMsgs c s)).length sc) nil0 (.slice ra (reportsOf c s).length rc)) := ⟨(hfa T9.s).mono fun b hb => Nat.le_trans (Nat.le_add_right _ 2) hb, nil0_in _, (hfa T9.p).mono fun b hb => Nat.le_trans (Nat.le_add_right _ 2) hb⟩
                  have HG9 := Lib.hid T9.g
                  have HM9 := Lib.hid T9.r
                  unfold nil8 at HM9
                  clear hfr hfa hta T9 hfin hsent hrep HT HG HRW HF HFN
                  obtain ⟨⟨y0, y1, y2, y3, y4, y5, y6, y7, y8, y9, y10⟩, yf⟩ := eleven_at HM9.out.hb
                  have yf0 := yf 0
                  have yf1 := yf 1
                  have yf2 := yf 2
                  have yf3 := yf 3
                  have yf4 := yf 4
                  have yf5 := yf 5
                  have yf6 := yf 6
                  have yf7 := yf 7
                  have yf8 := yf 8
                  have yf9 := yf 9
                  have yf10 := yf 10
                  clear yf
                  obtain ⟨W6, hW6⟩ : ∃ xx, xx = put11 wr (w.heap.size + 1) (.int .i64 0) (.int .i64 0) (.int .i64 0) (.int .i64 0) (.int .i64 0) (.int .i64 0) (.int .i64 0) (.int .i64 0) (.slice sa (envs c.labs s.ls.length (tickMsgs c s)).length sc) (.slice none 0 0) (.slice ra (reportsOf c s).length rc) := ⟨_, rfl⟩
                  have h6 := (HM9.out).put11 (.int .i64 0) (.int .i64 0) (.int .i64 0) (.int .i64 0) (.int .i64 0) (.int .i64 0) (.int .i64 0) (.int .i64 0) (.slice sa (envs c.labs s.ls.length (tickMsgs c s)).length sc) (.slice none 0 0) (.slice ra (reportsOf c s).length rc)
                  have hG6 := (HG9.out).set11 (by first | omega | (simp; done) | (simp; omega)) (HM9.out).ho (.int .i64 0) (.int .i64 0) (.int .i64 0) (.int .i64 0) (.int .i64 0) (.int .i64 0) (.int .i64 0) (.int .i64 0) (.slice sa (envs c.labs s.ls.length (tickMsgs c s)).length sc) (.slice none 0 0) (.slice ra (reportsOf c s).length rc)
                  rw [← hW6] at h6 hG6
                  unfold put11 at hW6
                  have HW6 := Lib.hid hW6
                  have HG6 := Lib.hid hG6
                  obtain ⟨⟨t0, t1, t2, t3, t4, t5, t6, t7, t8, t9, t10⟩, -⟩ := eleven_at h6.hb
                  clear hW6 hG6 h6
                  go_wp2_with fail
                  rw [← HW6.out]
                  refine bodyPost_ret (v := .agg #[.int .i64 0, .int .i64 0, .int .i64 0, .int .i64 0, .int .i64 0, .int .i64 0, .int .i64 0, .int .i64 0, .slice sa (envs c.labs s.ls.length (tickMsgs c s)).length sc, .slice none 0 0, .slice ra (reportsOf c s).length rc]) (by simp [results, Tryz.results54, go_sem, t0, t1, t2, t3, t4, t5, t6, t7, t8, t9, t10]) rfl ?_
                  exact (by rw [HR.out]; exact ⟨own4, _, nil0, _, rfl, (by rw [HW6.out]; exact HTF.out _ _ _ _ _ _ _ _ _ _ _), HG6.out.at', HG6.out.go, HFar.out⟩)
end Go.Proofs.YtjdedflfdlhkdaaGreatDoor

namespace Go.Proofs.YtjdedflfdlhkdaaGreatDoor
open Go.ChangeShapes Go.WideShapes Go.ChangeAt Go.RowKit
set_option linter.unusedVariables false
set_option linter.unusedSimpArgs false

theorem from_at (s : Wld) (i : Nat) (hi : i < s.ls.length) : s.from' i = s.ls[i].f := by simp [Wld.from', List.getD_eq_getElem?_getD, hi]
theorem to_at (s : Wld) (i : Nat) (hi : i < s.ls.length) : s.to' i = s.ls[i].t := by simp [Wld.to', List.getD_eq_getElem?_getD, hi]
theorem wants_zero (s : Wld) (f : Nat) (l : List Int) : s.wants f (l.take 0) = s := by
  unfold Wld.wants
  have : (fun k => if k < (l.take 0).length then (s.bk k).want f ((l.take 0).getD k 0) else s.bk k) = s.bk := by funext k; exact if_neg (by simp)
  rw [this]
theorem wants_at (s : Wld) (f : Nat) (l : List Int) (k : Nat) (hk : k ≤ l.length) : (s.wants f (l.take k)).bk k = s.bk k := by
  have e : (l.take k).length = k := by simp; omega
  unfold Wld.wants; simp only [e]; exact if_neg (by omega)
theorem wants_succ (s : Wld) (f : Nat) (l : List Int) (k : Nat) (hk : k < l.length) : s.wants f (l.take (k + 1)) = { s.wants f (l.take k) with bk := updF (s.wants f (l.take k)).bk k (((s.wants f (l.take k)).bk k).want f l[k]) } := by
  have e1 : (l.take (k + 1)).length = k + 1 := by simp; omega
  have e : (l.take k).length = k := by simp; omega
  have eg : l.getD k 0 = l[k] := by simp [List.getD_eq_getElem?_getD, hk]
  rw [wants_at s f l k (by omega)]
  unfold Wld.wants
  congr 1
  funext j
  by_cases hj : j = k
  · subst hj
    rw [updF_same, if_pos (by omega), getD_take (show j < j + 1 by omega), eg]
  · rw [updF_ne _ _ hj]
    dsimp only
    by_cases h2 : j < k
    · rw [if_pos (by omega), if_pos (by omega), getD_take (show j < k + 1 by omega), getD_take h2]
    · rw [if_neg (by omega), if_neg (by omega)]
/-- Learnt of the first labels. -/
def Wld.learnsTo (s : Wld) (i : Nat) (L : Nat → List Ent) (k : Nat) : Wld := { s with st := fun x j => if x = i ∧ j < k then mergeL (s.st i j) (L j) else s.st x j }
theorem learnsTo_zero (s : Wld) (i : Nat) (L : Nat → List Ent) : s.learnsTo i L 0 = s := by
  unfold Wld.learnsTo
  have : (fun x j => if x = i ∧ j < 0 then mergeL (s.st i j) (L j) else s.st x j) = s.st := by funext x j; exact if_neg (by omega)
  rw [this]
theorem learnsTo_at (s : Wld) (i : Nat) (L : Nat → List Ent) (k : Nat) : (s.learnsTo i L k).st i k = s.st i k := by unfold Wld.learnsTo; exact if_neg (by omega)
theorem learnsTo_succ (s : Wld) (i : Nat) (L : Nat → List Ent) (k : Nat) : s.learnsTo i L (k + 1) = { s.learnsTo i L k with st := upd2 (s.learnsTo i L k).st i k (mergeL ((s.learnsTo i L k).st i k) (L k)) } := by
  rw [learnsTo_at]
  unfold Wld.learnsTo
  congr 1
  funext x j
  by_cases h : x = i ∧ j = k
  · obtain ⟨rfl, rfl⟩ := h
    rw [upd2_same, if_pos ⟨rfl, by omega⟩]
  · rw [upd2_ne _ _ h]
    dsimp only
    by_cases h2 : x = i ∧ j < k
    · rw [if_pos ⟨h2.1, by omega⟩, if_pos h2]
    · rw [if_neg (by omega), if_neg h2]
theorem learnsTo_all (s : Wld) (i : Nat) (labs : List Nat) (f t : Nat) (st : Nat → List Ent) : s.learnsTo i (heardL labs f t st) labs.length = s.learns i (heardL labs f t st) := by
  unfold Wld.learnsTo Wld.learns
  congr 1
  funext x j
  by_cases h : x = i
  · subst h
    rw [updF_same]
    by_cases hj : j < labs.length
    · rw [if_pos ⟨rfl, hj⟩]
    · rw [if_neg (by omega)]
      have : heardL labs f t st j = [] := by unfold heardL; rw [if_neg (by omega)]
      rw [this]; rfl
  · rw [updF_ne _ _ h, if_neg (by omega)]
theorem enc_nums {labs : List Nat} {x : Let} {l : List Int} (h : x.m = .nums l) : x.enc labs = recB (askF l) := by unfold Let.enc Let.fields; rw [h]
theorem enc_rum {labs : List Nat} {x : Let} {st : Nat → List Ent} (h : x.m = .rum st) : x.enc labs = recB (rumF labs x.f x.t st) := by unfold Let.enc Let.fields; rw [h]
/-- Behind the opening. -/
theorem del_open {w W3 Y w5 : World} {c : Cfg} {X : Adr} {own : Own} {N Q : Nat} {s : Wld} {o : Obj} {op' : Int → Int → Int} (g : Gone w own W3 c X own N s) (m : Mine own W3 Q o) (hb : Below W3.heap.size W3 Y) (ho : OffAt w5 (fun b => own b = some .off) X.O X.P (N + 1) ⟨s.ls.map (fun x : Let => x.ltr c.labs), op'⟩) (hw : Wrote (fun b => own b = some .off) Y w5) :
    Gone w own w5 c X own (N + 1) { s with op := op' } ∧ Went own own Y w5 ∧ Mine own w5 Q o ∧ Q < Y.heap.size := by
  obtain ⟨h1, h2⟩ := (g.on hb).at'.opened op' ho hw
  exact ⟨(g.on hb).step h1 h2, h2, (m.on hb).went h2, (m.on hb).lt⟩
theorem del_frame {w Y w5 : World} {c : Cfg} {X : Adr} {own : Own} {N Q n cc : Nat} {a : Option Addr} {s : Wld} {xs : List Value} {a0 a1 a2 a3 a4 a5 a6 a7 a8 a9 a10 : Value} {o : Obj} (g : Gone w own w5 c X own N s) (mp : Mine own w5 w.heap.size o) (m : Mine own w5 Q (.cells #[a0, a1, a2, a3, a4, a5, a6, a7, a8, a9, a10] 57))
    (hT : HasT w5 5 1 (.slice a n cc) n xs) (hI : InF (fun b => Y.heap.size ≤ b) (.slice a n cc)) (hl : ∀ b, own b ≠ none → b < Y.heap.size) (hs : Y.heap.size ≤ w5.heap.size) (hQ : w.heap.size < Q) (hY : Q < Y.heap.size) :
    Gone w own (w5.setCell ⟨Q, 9, none⟩ (.slice a n cc)) c X own N s ∧ Mine own (w5.setCell ⟨Q, 9, none⟩ (.slice a n cc)) Q (.cells #[a0, a1, a2, a3, a4, a5, a6, a7, a8, .slice a n cc, a10] 57) ∧ Mine own (w5.setCell ⟨Q, 9, none⟩ (.slice a n cc)) w.heap.size o ∧
      Has (w5.setCell ⟨Q, 9, none⟩ (.slice a n cc)) 1 (.slice a n cc) n xs ∧ InF (Fr own (w5.setCell ⟨Q, 9, none⟩ (.slice a n cc))) (.slice a n cc) ∧ InF (fun b => w.heap.size < b) (.slice a n cc) := by
  have e : (w5.setCell ⟨Q, 9, none⟩ (.slice a n cc)).heap.size = w5.heap.size := by simp [World.setCell]
  have hne : InF (fun b => b ≠ Q) (.slice a n cc) := fun b off n' c' hv hh => by
    obtain ⟨cs, r, hq⟩ := hT.2 b off n' c' hv
    rw [hh, m.hb] at hq
    simp at hq
  refine ⟨g.set (by omega) m.ho 9 _, m.set (r := (0, 0)) 9 _, mp.other (by simp only; omega) _, hT.1.kept hne fun b _ hb => Below.heap_setCell _ _ _ _ hb, fun b off n' c' hv => ⟨?_, by rw [e]; exact hasT_lt hT hv⟩, hI.mono fun b hb => Nat.lt_of_lt_of_le (Nat.lt_trans hQ hY) hb⟩
  cases h : own b with
  | none => rfl
  | some t =>
    have h1 := hl b (by rw [h]; simp)
    have h2 := hI b off n' c' hv
    simp only at h2
    omega
/-- What stays of the frame at the end. -/
theorem tld_frame {w1 : World} {own : Own} {P : Nat} {fv : Value} {t : Tld} (h : Has w1 1 fv t.frame.length (u8s t.frame)) (hi : InF (Fr own w1) fv) (hj : InF (fun b => P < b) fv) (h1 : t.sent = []) (h2 : t.report = []) (x0 x1 x2 x3 x4 x5 x6 x7 x8 x9 x10 : Value) : TldAt (put11 w1 P x0 x1 x2 x3 x4 x5 x6 x7 x8 x9 x10) own t nil0 fv nil0 := by
  have hk : ∀ b, b < w1.heap.size → P < b → (put11 w1 P x0 x1 x2 x3 x4 x5 x6 x7 x8 x9 x10).heap[b]? = w1.heap[b]? := fun b _ hb => by
    have hne : b ≠ P := by omega
    unfold put11
    repeat rw [Below.heap_setCell _ _ _ _ (show b ≠ (⟨P, _, none⟩ : Addr).block from hne)]
  refine ⟨by rw [h1]; exact nil0_has _ 4, h.kept hj hk, by rw [h2]; exact nil0_has _ 1, nil0_in _, hi.mono fun b hb => ⟨hb.1, by rw [put11_size]; exact hb.2⟩, nil0_in _⟩
/-- What was made behind a point is nobody's. -/
theorem fr_new {w1 w2 : World} {own : Own} {v : Value} {sz n : Nat} {xs : List Value} (hl : ∀ b, own b ≠ none → b < w1.heap.size) (h : Has w2 sz v n xs) (hf : InF (fun b => w1.heap.size ≤ b) v) (hn : xs = [] → v = nil0) : InF (Fr own w2) v := by
  intro b off n' c hv
  have h1 := hf b off n' c hv
  simp only at h1
  refine ⟨?_, ?_⟩
  · cases ho : own b with
    | none => rfl
    | some t => exact absurd (hl b (by rw [ho]; simp)) (by omega)
  · obtain ⟨hl0, a, cap, he, _, _, hc⟩ := h
    cases xs with
    | nil => rw [hn rfl] at hv; simp [nil0] at hv
    | cons u us =>
      obtain ⟨b', off', rfl, hcc⟩ := hc (by simp)
      rw [hv] at he
      simp only [Value.slice.injEq, Option.some.injEq, Addr.mk.injEq, and_true] at he
      obtain ⟨⟨rfl, rfl⟩, -, -⟩ := he
      exact World.block_lt_of_cell? w2 _ (hcc 0 u (by simp))
theorem fr_owns {w1 w2 : World} {own : Own} {v : Value} {e sz n : Nat} {xs : List Value} (hl : ∀ b, own b ≠ none → b < w1.heap.size) (h : w2.ownsRow w1.heap.size e sz v n xs) : InF (Fr own w2) v := by
  intro b off n' c hv
  subst hv
  obtain ⟨h1, h2, -⟩ := owns_block_of h (g := b) rfl
  refine ⟨?_, h2⟩
  cases ho : own b with
  | none => rfl
  | some t => exact absurd (hl b (by rw [ho]; simp)) (by omega)
theorem heard_free {w1 Y w2 : World} {own : Own} {g m : Nat} {vs : Nat → Value} {L : Nat → List Ent} (hl : ∀ b, own b ≠ none → b < w1.heap.size) (hY : w1.heap.size ≤ Y.heap.size) (h : HeardAt Y w2 g m vs L) : Mine own w2 g (.cells ((List.range m).map vs).toArray 43 (0, 0)) ∧ ∀ j, j < m → Has w2 5 (vs j) (L j).length (ents (L j)) ∧ InF (Fr own w2) (vs j) := by
  refine ⟨⟨?_, h.cells⟩, fun j hj => ⟨h.rows j hj, fr_new hl (h.rows j hj) (fun b off n c hv => Nat.le_trans hY (h.far j hj b off n c hv)) fun he => h.nil j (by cases hL : L j with
    | nil => rfl
    | cons a t => rw [hL] at he; simp [ents, Ent.cells] at he)⟩⟩
  cases ho : own g with
  | none => rfl
  | some t => exact absurd (hl g (by rw [ho]; simp)) (by have := h.new; omega)
end Go.Proofs.YtjdedflfdlhkdaaGreatDoor
