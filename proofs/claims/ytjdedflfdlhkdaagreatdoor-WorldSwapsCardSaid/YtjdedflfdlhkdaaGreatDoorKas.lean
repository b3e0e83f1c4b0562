/- Texts that the claim imports, laid together: WDelE WDelF WDelG WDelH. No statement of their own. -/
import Derived.Test.YtjdedflfdlhkdaaGreatDoorKar
namespace Go.Proofs.YtjdedflfdlhkdaaGreatDoor
open Go.ChangeShapes Go.WideShapes Go.ChangeAt Go.RowKit
set_option linter.unusedVariables false
set_option linter.unusedSimpArgs false

set_option maxRecDepth 100000 in
set_option maxHeartbeats 8000000 in
theorem cDelOkE {w : World} {c : Cfg} {X : Adr} {own : Own} {N K : Nat} {s : Wld} (hc : c.Ok) (h : WAt w c X own N s) (hok : WOk c K s) (hK : K ≤ 1000) (hN : N ≤ 999999) (i : Nat) (hi : i < s.ls.length) (hd : s.due i = 0) (hcase : Hid ((∃ l, s.ls[i].m = .nums l) ∧ s.ls[i].t = c.n)) :
    Calls Tryz.prog 55 #[.pointer (some ⟨X.W, 0, none⟩), .int .i64 i] w (Stepped w c X own (N + 1) (s.deliver c i)) := by
  have hdd : s.deliver c i = ({ noT 0 with who := s.ls[i].t, frame := s.ls[i].enc c.labs }, (s.opens i).comes c s.ls[i]) := by
    unfold Wld.deliver
    rw [if_neg (by rw [hd]; decide), if_neg (by rw [hd]; decide)]
    simp only [Int.toNat_natCast, List.getElem?_eq_getElem hi]
  have hnew : s.op (s.from' i) (s.to' i) ≤ i := by
    unfold Wld.due at hd
    rw [if_neg (by omega)] at hd
    simp only [Int.toNat_natCast] at hd
    have hq : ¬ (s.lost i = true ∨ s.old i = true) := fun hh => by rw [if_pos hh] at hd; cases hd
    have hq2 : ¬ s.old i = true := fun hh => hq (.inr hh)
    unfold Wld.old at hq2
    simpa using hq2
  have hop : s.opens i = { s with op := updW s.op s.ls[i].f s.ls[i].t (i + 1) } := by
    unfold Wld.opens; rw [from_at s i hi, to_at s i hi]
  rw [from_at s i hi, to_at s i hi] at hnew
  have hxo := hok.ls _ (List.getElem_mem hi)
  rw [hdd, hop]
  have hb := told_new w
  have hG := (Gone.start h).on hb
  have hM : Mine own _ w.heap.size _ := ⟨(Gone.start h).none (Nat.le_refl _), heap_alloc_new w (.cells #[.int .i64 0, .int .i64 0, .int .i64 0, .int .i64 0, .int .i64 0, .int .i64 0, .int .i64 0, .int .i64 0, .slice none 0 0, .slice none 0 0, .slice none 0 0] 57)⟩
  have G := Lib.hid hG
  have M := Lib.hid hM
  have CD := Lib.hid (cDue hG.at' (by omega) i hi)
  rw [hd] at CD
  have HOK := Lib.hid hok
  have HC := Lib.hid hc
  have HI := Lib.hid hi
  clear hb hG hM h hd hdd hop hok
  go_enter Tryz.func55, Tryz.ntmps55
  go_upto_region 1 with (fail)
  generalize (w.alloc (.cells #[.int .i64 0, .int .i64 0, .int .i64 0, .int .i64 0, .int .i64 0, .int .i64 0, .int .i64 0, .int .i64 0, .slice none 0 0, .slice none 0 0, .slice none 0 0] 57)) = W at *
  go_wp2_with fail
  refine CD.out.mono ?_
  rintro e w2 ⟨rfl, hb2⟩
  have G2 := Lib.hid (G.out.on hb2)
  have M2 := Lib.hid (M.out.on hb2)
  clear hb2 G M CD
  obtain ⟨x0, x1, x2, x3, x4, x5, x6, x7, x8⟩ := G2.out.at'.head
  have CT := Lib.hid (cTo G2.out.at'.off i (by simpa using hi))
  simp only at CT
  rw [ltr_t c.labs s.ls i hi] at CT
  have hto := to_at s i hi
  unfold Wld.to' at hto
  rw [hto] at CT
  have hfo := from_at s i hi
  unfold Wld.from' at hfo
  have hT := heap_alloc_new w2 (.cells #[.int .i64 0, .int .i64 s.ls[i].t, .int .i64 0, .int .i64 0, .int .i64 0, .int .i64 0, .int .i64 0, .int .i64 0, .slice none 0 0, .slice none 0 0, .slice none 0 0] 57)
  have hb3 : Below w2.heap.size w2 (w2.alloc (.cells #[.int .i64 0, .int .i64 s.ls[i].t, .int .i64 0, .int .i64 0, .int .i64 0, .int .i64 0, .int .i64 0, .int .i64 0, .slice none 0 0, .slice none 0 0, .slice none 0 0] 57)) := (Below.refl _ _).alloc (Nat.le_refl _) _
  have G3 := Lib.hid (G2.out.on hb3)
  have M3 := Lib.hid (M2.out.on hb3)
  have HT : Hid (Mine own _ w2.heap.size _) := ⟨G2.out.none (Nat.le_refl _), hT⟩
  have hPT : w.heap.size < w2.heap.size := M2.out.lt
  have CO : Hid (∀ Y, Below (w2.alloc (.cells #[.int .i64 0, .int .i64 s.ls[i].t, .int .i64 0, .int .i64 0, .int .i64 0, .int .i64 0, .int .i64 0, .int .i64 0, .slice none 0 0, .slice none 0 0, .slice none 0 0] 57)).heap.size (w2.alloc (.cells #[.int .i64 0, .int .i64 s.ls[i].t, .int .i64 0, .int .i64 0, .int .i64 0, .int .i64 0, .int .i64 0, .int .i64 0, .slice none 0 0, .slice none 0 0, .slice none 0 0] 57)) Y → _) :=
    fun Y hY => cOpenOk ((G3.out.on hY).at'.off) i (by simpa using hi) (by
      simp only
      rw [ltr_t c.labs s.ls i hi, ltr_f c.labs s.ls i hi, hto, hfo]; exact hnew) (by omega)
  simp only at CO
  rw [ltr_t c.labs s.ls i hi, ltr_f c.labs s.ls i hi, ltr_d c.labs s.ls i hi, hto, hfo] at CO
  clear hb3 hT G2 M2
  go_upto_region 5 with (go_at_call 66; refine CT.out.mono ?_; rintro e w' ⟨rfl, rfl⟩)
  have y0 := cell_on ((Below.refl w2.heap.size w2).alloc (Nat.le_refl _) (.cells #[.int .i64 0, .int .i64 s.ls[i].t, .int .i64 0, .int .i64 0, .int .i64 0, .int .i64 0, .int .i64 0, .int .i64 0, .slice none 0 0, .slice none 0 0, .slice none 0 0] 57)) x7
  have HFX := Lib.hid hfo
  clear x0 x1 x2 x3 x4 x5 x6 x7 x8 CT hto hfo hnew
  generalize (w2.alloc (.cells #[.int .i64 0, .int .i64 s.ls[i].t, .int .i64 0, .int .i64 0, .int .i64 0, .int .i64 0, .int .i64 0, .int .i64 0, .slice none 0 0, .slice none 0 0, .slice none 0 0] 57)) = W3 at *
  generalize w2.heap.size = Q at *
  generalize hx : s.ls[i] = x at *
  have HX := Lib.hid hx
  clear hx
  obtain ⟨⟨z0, z1, z2, z3, z4, z5, z6, z7, z8, z9, z10⟩, zf⟩ := eleven_at HT.out.hb
  have zf0 := zf 0
  have zf1 := zf 1
  have zf2 := zf 2
  have zf3 := zf 3
  have zf4 := zf 4
  have zf5 := zf 5
  have zf6 := zf 6
  have zf7 := zf 7
  have zf8 := zf 8
  have zf9 := zf 9
  have zf10 := zf 10
  clear zf
  go_upto_region 7 with (fail)
  go_cut [36] (fun _ wx => ∃ a cc, Hid (Gone w own wx c X own (N + 1) { s with op := updW s.op x.f x.t (i + 1) }) ∧ Hid (Mine own wx Q (.cells #[.int .i64 0, .int .i64 x.t, .int .i64 0, .int .i64 0, .int .i64 0, .int .i64 0, .int .i64 0, .int .i64 0, .slice none 0 0, .slice a (x.enc c.labs).length cc, .slice none 0 0] 57)) ∧ Hid (Mine own wx w.heap.size (.cells #[.int .i64 0, .int .i64 0, .int .i64 0, .int .i64 0, .int .i64 0, .int .i64 0, .int .i64 0, .int .i64 0, .slice none 0 0, .slice none 0 0, .slice none 0 0] 57)) ∧ Hid (Has wx 1 (.slice a (x.enc c.labs).length cc) (x.enc c.labs).length (u8s (x.enc c.labs))) ∧ Hid (InF (Fr own wx) (.slice a (x.enc c.labs).length cc)) ∧ Hid (InF (fun b => w.heap.size < b) (.slice a (x.enc c.labs).length cc)))
  case first =>
    go_region_law (go_simp; go_at_call 67; refine (CO.out _ (by repeat (first | exact Below.refl _ _ | refine Below.drew ?_ | refine Below.alloc ?_ (by first | (simp; done) | (simp; omega)) _ | refine Below.setCell ?_ (by first | (simp; done) | (simp; omega)) _))).mono ?_; rintro e w5 ⟨a, cc, rfl, hT5, hO5, hI5, hW5⟩; obtain ⟨G5, U5, T5, Y5⟩ := del_open G3.out HT.out (by repeat (first | exact Below.refl _ _ | refine Below.drew ?_ | refine Below.alloc ?_ (by first | (simp; done) | (simp; omega)) _ | refine Below.setCell ?_ (by first | (simp; done) | (simp; omega)) _)) hO5 hW5; obtain ⟨⟨-, -, -, -, -, -, -, -, -, k9, -⟩, kf⟩ := eleven_at T5.hb; have k9f := kf 9; clear kf)
    all_goals
      have M5 := (M3.out.on (Below.drew (Below.refl _ _))).went U5
      have hfin := del_frame G5 M5 T5 hT5 (hI5.mono fun b hb => hb) (by have := G3.out.at'.lt; exact this) U5.wr.size hPT Y5
      have Hfin := Lib.hid hfin
      clear hfin M5 G5 U5 T5 Y5 hT5 hO5 hI5 hW5
      go_wp2_with fail
      go_meet
      exact ⟨_, _, Hfin.out⟩
  case rest =>
  obtain ⟨a, cc, G6, T6, M6, F6, I6, J6⟩ := hcut
  clear G3 M3 HT CO hPT
  obtain ⟨x0, x1, x2, x3, x4, x5, x6, x7, x8⟩ := G6.out.at'.head
  have CF := Lib.hid (cFrom G6.out.at'.off i (by simpa using HI.out))
  simp only at CF
  rw [ltr_f c.labs s.ls i HI.out, HFX.out] at CF
  obtain ⟨⟨-, q1, -, -, -, -, -, -, -, q9, -⟩, -⟩ := eleven_at T6.out.hb
  go_upto_region 15 with (go_at_call 68; refine CF.out.mono ?_; rintro e w' ⟨rfl, rfl⟩)
  obtain ⟨s6, hs6⟩ : ∃ y, y = ({ s with op := updW s.op x.f x.t (i + 1) } : Wld) := ⟨_, rfl⟩
  rw [← hs6] at G6
  have HK : Hid (WOk c K s6) := by rw [hs6]; have q := HOK.out; exact ⟨q.sh, q.made, q.asks, q.gain, q.st, q.bk, q.round, q.ls⟩
  have HS := Lib.hid hs6
  clear hs6 HOK q1 q9 x0 x1 x2 x3 x4 x5 x6 x7 x8 HFX z0 z1 z2 z3 z4 z5 z6 z7 z8 z9 z10 zf0 zf1 zf2 zf3 zf4 zf5 zf6 zf7 zf8 zf9 zf10 y0 CF
  have hm := hxo.m
  obtain ⟨x0, x1, x2, x3, x4, x5, x6, x7, x8⟩ := G6.out.at'.head
  obtain ⟨⟨-, q1, -, -, -, -, -, -, -, q9, -⟩, -⟩ := eleven_at T6.out.hb
  have hc4 := hc.n.2
  clear hc
  cases hxm : x.m with
  | nums l =>
    rw [hxm] at hm
    obtain ⟨hm1, hm2, hm3⟩ := hm
    have hen := enc_nums (labs := c.labs) hxm
    have hcm : ∀ s' : Wld, s'.comes c x = if x.t = c.n then s'.wants x.f l else s'.gains x.t l := fun s' => by unfold Wld.comes; rw [hxm]
    have HM2 := Lib.hid hm2
    have HM3 := Lib.hid hm3
    have HEN := Lib.hid hen
    clear hm2 hm3 hen hxm
    rcases hm1 with ⟨ht, hfl⟩ | ⟨hfn, htl⟩
    · skip
      have htb : ((x.t : Int) == (c.n : Int)) = true := by simp [ht]
      have HCM : Hid (s6.comes c x = s6.wants x.f l) := by
        show _ = _
        rw [hcm, if_pos ht]
      clear hcm ht
      go_quiet (fail)

      have hbq : Below wc.heap.size wc (wc.drewN nq) := below_drewN (Below.refl _ _) _
      obtain ⟨w9, hw9⟩ : ∃ y, y = wc.drewN nq := ⟨_, rfl⟩
      rw [← hw9] at hbq ⊢
      have G9 := Lib.hid (G6.out.on hbq)
      have T9 := Lib.hid (T6.out.on hbq)
      have M9 := Lib.hid (M6.out.on hbq)
      have F9 := Lib.hid (F6.out.upd I6.out (Went.of_below hbq G6.out.at'.lt))
      have I9 := Lib.hid (I6.out.upd (Went.of_below (own := own) hbq G6.out.at'.lt))
      clear x0 x1 x2 x3 x4 x5 x6 x7 x8 q1 q9
      obtain ⟨x0, x1, x2, x3, x4, x5, x6, x7, x8⟩ := G9.out.at'.head
      obtain ⟨⟨-, q1, -, -, -, -, -, -, -, q9, -⟩, -⟩ := eleven_at T9.out.hb
      clear hbq hw9 G6 T6 M6 F6 I6

      have hF := F9.out
      rw [HEN.out, recB_length] at hF
      have CA : Hid (∀ Y, Below w9.heap.size w9 Y → _) := fun Y hY => cAsked HC.out (G9.out.at'.on hY).fix.cfg (.slice a (recSize (askF l)) cc) l (hF.below hY) HM3.out HM2.out
      unfold Cfg.cells at CA
      rw [show (x.enc c.labs).length = recSize (askF l) by rw [HEN.out, recB_length]] at q9
      clear hF
      go_upto_region 16 with (fail)
      go_cut [8] (fun v wx => ∃ a5 c5, v = .slice a5 l.length c5 ∧ Hid (Below w9.heap.size w9 wx) ∧ Hid (Has wx 1 (.slice a5 l.length c5) l.length (ints l)) ∧ Hid (InF (Fr own wx) (.slice a5 l.length c5)))
      case first =>
        go_region_law (go_simp; go_at_call 69; refine (CA.out _ (by repeat (first | exact Below.refl _ _ | refine Below.drew ?_ | refine Below.alloc ?_ (by first | (simp; done) | (simp; omega)) _ | refine Below.setCell ?_ (by first | (simp; done) | (simp; omega)) _))).mono ?_; rintro e w5 ⟨v5, rfl, hown5, hb5⟩; obtain ⟨a5, c5, rfl⟩ := owns_slice hown5)
        all_goals
          have hbb : Below w9.heap.size w9 w5 := Below.trans (by repeat (first | exact Below.refl _ _ | refine Below.drew ?_ | refine Below.alloc ?_ (by first | (simp; done) | (simp; omega)) _ | refine Below.setCell ?_ (by first | (simp; done) | (simp; omega)) _)) (hb5.mono (Nat.le_refl _))
          have hfin := (⟨hbb, Has.of_owns hown5, fr_owns (own := own) G9.out.at'.lt (owns_base hown5 (Nat.le_refl _))⟩ : Below w9.heap.size w9 w5 ∧ Has w5 1 (.slice a5 l.length c5) l.length (ints l) ∧ InF (Fr own w5) (.slice a5 l.length c5))
          have Hfin := Lib.hid hfin
          clear hbb hfin hown5 hb5
          go_wp2_with fail
          go_meet
          exact ⟨_, _, rfl, Hfin.out⟩
      case rest =>
      obtain ⟨a5, c5, rfl, B5, V5, I5⟩ := hcut

      have G10 := Lib.hid (G9.out.on B5.out)
      have T10 := Lib.hid (T9.out.on B5.out)
      have M10 := Lib.hid (M9.out.on B5.out)
      have F10 := Lib.hid (F9.out.upd I9.out (Went.of_below B5.out G9.out.at'.lt))
      have I10 := Lib.hid (I9.out.upd (Went.of_below (own := own) B5.out G9.out.at'.lt))
      clear G9 T9 M9 F9 I9 B5

      have hz := Lib.hid (wants_zero s6 x.f l)
      go_wp2_with fail
      go_loopw [10, 11, 110] (fun _ _ j wr => ∃ (k : Nat) (own' : Own), k ≤ l.length ∧ j = .int .i64 k ∧ Hid (Gone w own wr c X own' (N + 1) (s6.wants x.f (l.take k))) ∧ Hid (Went own own' wc wr)) (fun _ _ j _ => l.length - (intOf j).toNat)
      case atStart => exact ⟨0, own, by omega, rfl, by rw [hz.out]; exact G10, Went.of_below (Below.refl _ _) G10.out.at'.lt⟩
      case round =>
        obtain ⟨k, own1, hk, rfl, HG, HU⟩ := hrel
        by_cases hlt : k < l.length
        · have hltz : (k : Int) < (l.length : Int) := by omega
          have hki : k < c.items := by have := HM2.out; omega
          obtain ⟨⟨hl0, _⟩, _, _, he, _, _, hcc⟩ := V5.out.upd I5.out HU.out
          simp only [Value.slice.injEq] at he
          obtain ⟨rfl, -, rfl⟩ := he
          obtain ⟨b, o, rfl, hcell⟩ := hcc (by simp; omega)
          have z0 := hcell k _ (ints_get l k hlt)
          obtain ⟨x0, x1, x2, x3, x4, x5, x6, x7, x8⟩ := HG.out.at'.head
          obtain ⟨p0, hp1, hp2⟩ := HG.out.at'.bptr k hki
          unfold maxLen at hp2
          have hkz : (k : Int) < (c.items : Int) := by omega
          have hb := wants_at s6 x.f l k (by omega)
          have CW : Hid (∀ Y, Below wr.heap.size wr Y → _) := fun Y hY => cWantW (HG.out.on hY).at' hc4 k hki (by rw [hb]; exact HK.out.bk k hki) x.f hfl l[k]
          have hsu := Lib.hid (wants_succ s6 x.f l k hlt)
          generalize l[k] = y at *
          clear hl0 hcc hcell hb
          go_wp2_with fail
          refine (CW.out _ (by repeat (first | exact Below.refl _ _ | refine Below.drew ?_ | refine Below.alloc ?_ (by first | (simp; done) | (simp; omega)) _ | refine Below.setCell ?_ (by first | (simp; done) | (simp; omega)) _))).mono ?_
          rintro e w5 ⟨rfl, own5, hW5, hU5⟩
          have HG5 : Hid (Gone w own w5 c X own5 (N + 1) (s6.wants x.f (l.take (k + 1)))) := by
            show Gone _ _ _ _ _ _ _ _
            rw [hsu.out]; exact HG.out.step hW5 hU5
          have HU5 := Lib.hid (HU.out.trans hU5)
          clear hW5 hU5 CW z0 x0 x1 x2 x3 x4 x5 x6 x7 x8 p0 HG HU
          go_wp2_with fail
          go_roundw
          case rel => exact ⟨k + 1, own5, by omega, by go_num, HG5, HU5⟩
          case measure => first | (simp [intOf]; done) | (simp [intOf]; omega)
        · obtain rfl : k = l.length := by omega
          rw [List.take_of_length_le (Nat.le_refl _)] at HG
          have HM := Lib.hid (M10.out.went HU.out)
          have HQ := Lib.hid (T10.out.went HU.out)
          have HF := F10.out.upd I10.out HU.out
          have HI := I10.out.upd HU.out
          have HT := Lib.hid (fun x0 x1 x2 x3 x4 x5 x6 x7 x8 x9 x10 => tld_frame (t := { noT 0 with who := x.t, frame := x.enc c.labs }) HF HI J6.out rfl rfl x0 x1 x2 x3 x4 x5 x6 x7 x8 x9 x10)
          clear HF HI
          obtain ⟨⟨y0, y1, y2, y3, y4, y5, y6, y7, y8, y9, y10⟩, yf⟩ := eleven_at HM.out.hb
          have yf0 := yf 0
          have yf1 := yf 1
          have yf2 := yf 2
          have yf3 := yf 3
          have yf4 := yf 4
          have yf5 := yf 5
          have yf6 := yf 6
          have yf7 := yf 7
          have yf8 := yf 8
          have yf9 := yf 9
          have yf10 := yf 10
          clear yf
          obtain ⟨⟨z0, z1, z2, z3, z4, z5, z6, z7, z8, z9, z10⟩, zf⟩ := eleven_at HQ.out.hb
          have zf0 := zf 0
          have zf1 := zf 1
          have zf2 := zf 2
          have zf3 := zf 3
          have zf4 := zf 4
          have zf5 := zf 5
          have zf6 := zf 6
          have zf7 := zf 7
          have zf8 := zf 8
          have zf9 := zf 9
          have zf10 := zf 10
          clear zf
          obtain ⟨W6, hW6⟩ : ∃ xx, xx = put11 wr w.heap.size (.int .i64 0) (.int .i64 x.t) (.int .i64 0) (.int .i64 0) (.int .i64 0) (.int .i64 0) (.int .i64 0) (.int .i64 0) (.slice none 0 0) (.slice a (x.enc c.labs).length cc) (.slice none 0 0) := ⟨_, rfl⟩
          have h6 := (HM.out).put11 (.int .i64 0) (.int .i64 x.t) (.int .i64 0) (.int .i64 0) (.int .i64 0) (.int .i64 0) (.int .i64 0) (.int .i64 0) (.slice none 0 0) (.slice a (x.enc c.labs).length cc) (.slice none 0 0)
          have hG6 := (HG.out).set11 (by first | omega | (simp; done) | (simp; omega)) (HM.out).ho (.int .i64 0) (.int .i64 x.t) (.int .i64 0) (.int .i64 0) (.int .i64 0) (.int .i64 0) (.int .i64 0) (.int .i64 0) (.slice none 0 0) (.slice a (x.enc c.labs).length cc) (.slice none 0 0)
          rw [← hW6] at h6 hG6
          unfold put11 at hW6
          have HW6 := Lib.hid hW6
          have HG6 := Lib.hid hG6
          obtain ⟨⟨t0, t1, t2, t3, t4, t5, t6, t7, t8, t9, t10⟩, -⟩ := eleven_at h6.hb
          clear hW6 hG6 h6
          go_wp2_with fail
          rw [← HW6.out]
          refine bodyPost_ret (v := .agg #[.int .i64 0, .int .i64 x.t, .int .i64 0, .int .i64 0, .int .i64 0, .int .i64 0, .int .i64 0, .int .i64 0, .slice none 0 0, .slice a (x.enc c.labs).length cc, .slice none 0 0]) (by simp [results, Tryz.results55, go_sem, t0, t1, t2, t3, t4, t5, t6, t7, t8, t9, t10]) rfl ?_
          exact (by have eX := HX.out; subst eX; exact ⟨own1, nil0, .slice a (s.ls[i].enc c.labs).length cc, nil0, rfl, (by rw [HW6.out]; exact HT.out _ _ _ _ _ _ _ _ _ _ _), (by have q := HG6.out.at'; rw [← HCM.out, HS.out] at q; exact q), HG6.out.go, farF J6.out⟩)
    · exact absurd hcase.out.2 (by omega)
  | rum st =>
    obtain ⟨⟨l, hl⟩, _⟩ := hcase.out
    rw [hxm] at hl; cases hl
end Go.Proofs.YtjdedflfdlhkdaaGreatDoor

namespace Go.Proofs.YtjdedflfdlhkdaaGreatDoor
open Go.ChangeShapes Go.WideShapes Go.ChangeAt Go.RowKit
set_option linter.unusedVariables false
set_option linter.unusedSimpArgs false

set_option maxRecDepth 100000 in
set_option maxHeartbeats 8000000 in
theorem cDelOkF {w : World} {c : Cfg} {X : Adr} {own : Own} {N K : Nat} {s : Wld} (hc : c.Ok) (h : WAt w c X own N s) (hok : WOk c K s) (hK : K ≤ 1000) (hN : N ≤ 999999) (i : Nat) (hi : i < s.ls.length) (hd : s.due i = 0) (hcase : Hid ((∃ l, s.ls[i].m = .nums l) ∧ s.ls[i].f = c.n)) :
    Calls Tryz.prog 55 #[.pointer (some ⟨X.W, 0, none⟩), .int .i64 i] w (Stepped w c X own (N + 1) (s.deliver c i)) := by
  have hdd : s.deliver c i = ({ noT 0 with who := s.ls[i].t, frame := s.ls[i].enc c.labs }, (s.opens i).comes c s.ls[i]) := by
    unfold Wld.deliver
    rw [if_neg (by rw [hd]; decide), if_neg (by rw [hd]; decide)]
    simp only [Int.toNat_natCast, List.getElem?_eq_getElem hi]
  have hnew : s.op (s.from' i) (s.to' i) ≤ i := by
    unfold Wld.due at hd
    rw [if_neg (by omega)] at hd
    simp only [Int.toNat_natCast] at hd
    have hq : ¬ (s.lost i = true ∨ s.old i = true) := fun hh => by rw [if_pos hh] at hd; cases hd
    have hq2 : ¬ s.old i = true := fun hh => hq (.inr hh)
    unfold Wld.old at hq2
    simpa using hq2
  have hop : s.opens i = { s with op := updW s.op s.ls[i].f s.ls[i].t (i + 1) } := by
    unfold Wld.opens; rw [from_at s i hi, to_at s i hi]
  rw [from_at s i hi, to_at s i hi] at hnew
  have hxo := hok.ls _ (List.getElem_mem hi)
  rw [hdd, hop]
  have hb := told_new w
  have hG := (Gone.start h).on hb
  have hM : Mine own _ w.heap.size _ := ⟨(Gone.start h).none (Nat.le_refl _), heap_alloc_new w (.cells #[.int .i64 0, .int .i64 0, .int .i64 0, .int .i64 0, .int .i64 0, .int .i64 0, .int .i64 0, .int .i64 0, .slice none 0 0, .slice none 0 0, .slice none 0 0] 57)⟩
  have G := Lib.hid hG
  have M := Lib.hid hM
  have CD := Lib.hid (cDue hG.at' (by omega) i hi)
  rw [hd] at CD
  have HOK := Lib.hid hok
  have HC := Lib.hid hc
  have HI := Lib.hid hi
  clear hb hG hM h hd hdd hop hok
  go_enter Tryz.func55, Tryz.ntmps55
  go_upto_region 1 with (fail)
  generalize (w.alloc (.cells #[.int .i64 0, .int .i64 0, .int .i64 0, .int .i64 0, .int .i64 0, .int .i64 0, .int .i64 0, .int .i64 0, .slice none 0 0, .slice none 0 0, .slice none 0 0] 57)) = W at *
  go_wp2_with fail
  refine CD.out.mono ?_
  rintro e w2 ⟨rfl, hb2⟩
  have G2 := Lib.hid (G.out.on hb2)
  have M2 := Lib.hid (M.out.on hb2)
  clear hb2 G M CD
  obtain ⟨x0, x1, x2, x3, x4, x5, x6, x7, x8⟩ := G2.out.at'.head
  have CT := Lib.hid (cTo G2.out.at'.off i (by simpa using hi))
  simp only at CT
  rw [ltr_t c.labs s.ls i hi] at CT
  have hto := to_at s i hi
  unfold Wld.to' at hto
  rw [hto] at CT
  have hfo := from_at s i hi
  unfold Wld.from' at hfo
  have hT := heap_alloc_new w2 (.cells #[.int .i64 0, .int .i64 s.ls[i].t, .int .i64 0, .int .i64 0, .int .i64 0, .int .i64 0, .int .i64 0, .int .i64 0, .slice none 0 0, .slice none 0 0, .slice none 0 0] 57)
  have hb3 : Below w2.heap.size w2 (w2.alloc (.cells #[.int .i64 0, .int .i64 s.ls[i].t, .int .i64 0, .int .i64 0, .int .i64 0, .int .i64 0, .int .i64 0, .int .i64 0, .slice none 0 0, .slice none 0 0, .slice none 0 0] 57)) := (Below.refl _ _).alloc (Nat.le_refl _) _
  have G3 := Lib.hid (G2.out.on hb3)
  have M3 := Lib.hid (M2.out.on hb3)
  have HT : Hid (Mine own _ w2.heap.size _) := ⟨G2.out.none (Nat.le_refl _), hT⟩
  have hPT : w.heap.size < w2.heap.size := M2.out.lt
  have CO : Hid (∀ Y, Below (w2.alloc (.cells #[.int .i64 0, .int .i64 s.ls[i].t, .int .i64 0, .int .i64 0, .int .i64 0, .int .i64 0, .int .i64 0, .int .i64 0, .slice none 0 0, .slice none 0 0, .slice none 0 0] 57)).heap.size (w2.alloc (.cells #[.int .i64 0, .int .i64 s.ls[i].t, .int .i64 0, .int .i64 0, .int .i64 0, .int .i64 0, .int .i64 0, .int .i64 0, .slice none 0 0, .slice none 0 0, .slice none 0 0] 57)) Y → _) :=
    fun Y hY => cOpenOk ((G3.out.on hY).at'.off) i (by simpa using hi) (by
      simp only
      rw [ltr_t c.labs s.ls i hi, ltr_f c.labs s.ls i hi, hto, hfo]; exact hnew) (by omega)
  simp only at CO
  rw [ltr_t c.labs s.ls i hi, ltr_f c.labs s.ls i hi, ltr_d c.labs s.ls i hi, hto, hfo] at CO
  clear hb3 hT G2 M2
  go_upto_region 5 with (go_at_call 66; refine CT.out.mono ?_; rintro e w' ⟨rfl, rfl⟩)
  have y0 := cell_on ((Below.refl w2.heap.size w2).alloc (Nat.le_refl _) (.cells #[.int .i64 0, .int .i64 s.ls[i].t, .int .i64 0, .int .i64 0, .int .i64 0, .int .i64 0, .int .i64 0, .int .i64 0, .slice none 0 0, .slice none 0 0, .slice none 0 0] 57)) x7
  have HFX := Lib.hid hfo
  clear x0 x1 x2 x3 x4 x5 x6 x7 x8 CT hto hfo hnew
  generalize (w2.alloc (.cells #[.int .i64 0, .int .i64 s.ls[i].t, .int .i64 0, .int .i64 0, .int .i64 0, .int .i64 0, .int .i64 0, .int .i64 0, .slice none 0 0, .slice none 0 0, .slice none 0 0] 57)) = W3 at *
  generalize w2.heap.size = Q at *
  generalize hx : s.ls[i] = x at *
  have HX := Lib.hid hx
  clear hx
  obtain ⟨⟨z0, z1, z2, z3, z4, z5, z6, z7, z8, z9, z10⟩, zf⟩ := eleven_at HT.out.hb
  have zf0 := zf 0
  have zf1 := zf 1
  have zf2 := zf 2
  have zf3 := zf 3
  have zf4 := zf 4
  have zf5 := zf 5
  have zf6 := zf 6
  have zf7 := zf 7
  have zf8 := zf 8
  have zf9 := zf 9
  have zf10 := zf 10
  clear zf
  go_upto_region 7 with (fail)
  go_cut [36] (fun _ wx => ∃ a cc, Hid (Gone w own wx c X own (N + 1) { s with op := updW s.op x.f x.t (i + 1) }) ∧ Hid (Mine own wx Q (.cells #[.int .i64 0, .int .i64 x.t, .int .i64 0, .int .i64 0, .int .i64 0, .int .i64 0, .int .i64 0, .int .i64 0, .slice none 0 0, .slice a (x.enc c.labs).length cc, .slice none 0 0] 57)) ∧ Hid (Mine own wx w.heap.size (.cells #[.int .i64 0, .int .i64 0, .int .i64 0, .int .i64 0, .int .i64 0, .int .i64 0, .int .i64 0, .int .i64 0, .slice none 0 0, .slice none 0 0, .slice none 0 0] 57)) ∧ Hid (Has wx 1 (.slice a (x.enc c.labs).length cc) (x.enc c.labs).length (u8s (x.enc c.labs))) ∧ Hid (InF (Fr own wx) (.slice a (x.enc c.labs).length cc)) ∧ Hid (InF (fun b => w.heap.size < b) (.slice a (x.enc c.labs).length cc)))
  case first =>
    go_region_law (go_simp; go_at_call 67; refine (CO.out _ (by repeat (first | exact Below.refl _ _ | refine Below.drew ?_ | refine Below.alloc ?_ (by first | (simp; done) | (simp; omega)) _ | refine Below.setCell ?_ (by first | (simp; done) | (simp; omega)) _))).mono ?_; rintro e w5 ⟨a, cc, rfl, hT5, hO5, hI5, hW5⟩; obtain ⟨G5, U5, T5, Y5⟩ := del_open G3.out HT.out (by repeat (first | exact Below.refl _ _ | refine Below.drew ?_ | refine Below.alloc ?_ (by first | (simp; done) | (simp; omega)) _ | refine Below.setCell ?_ (by first | (simp; done) | (simp; omega)) _)) hO5 hW5; obtain ⟨⟨-, -, -, -, -, -, -, -, -, k9, -⟩, kf⟩ := eleven_at T5.hb; have k9f := kf 9; clear kf)
    all_goals
      have M5 := (M3.out.on (Below.drew (Below.refl _ _))).went U5
      have hfin := del_frame G5 M5 T5 hT5 (hI5.mono fun b hb => hb) (by have := G3.out.at'.lt; exact this) U5.wr.size hPT Y5
      have Hfin := Lib.hid hfin
      clear hfin M5 G5 U5 T5 Y5 hT5 hO5 hI5 hW5
      go_wp2_with fail
      go_meet
      exact ⟨_, _, Hfin.out⟩
  case rest =>
  obtain ⟨a, cc, G6, T6, M6, F6, I6, J6⟩ := hcut
  clear G3 M3 HT CO hPT
  obtain ⟨x0, x1, x2, x3, x4, x5, x6, x7, x8⟩ := G6.out.at'.head
  have CF := Lib.hid (cFrom G6.out.at'.off i (by simpa using HI.out))
  simp only at CF
  rw [ltr_f c.labs s.ls i HI.out, HFX.out] at CF
  obtain ⟨⟨-, q1, -, -, -, -, -, -, -, q9, -⟩, -⟩ := eleven_at T6.out.hb
  go_upto_region 15 with (go_at_call 68; refine CF.out.mono ?_; rintro e w' ⟨rfl, rfl⟩)
  obtain ⟨s6, hs6⟩ : ∃ y, y = ({ s with op := updW s.op x.f x.t (i + 1) } : Wld) := ⟨_, rfl⟩
  rw [← hs6] at G6
  have HK : Hid (WOk c K s6) := by rw [hs6]; have q := HOK.out; exact ⟨q.sh, q.made, q.asks, q.gain, q.st, q.bk, q.round, q.ls⟩
  have HS := Lib.hid hs6
  clear hs6 HOK q1 q9 x0 x1 x2 x3 x4 x5 x6 x7 x8 HFX z0 z1 z2 z3 z4 z5 z6 z7 z8 z9 z10 zf0 zf1 zf2 zf3 zf4 zf5 zf6 zf7 zf8 zf9 zf10 y0 CF
  have hm := hxo.m
  obtain ⟨x0, x1, x2, x3, x4, x5, x6, x7, x8⟩ := G6.out.at'.head
  obtain ⟨⟨-, q1, -, -, -, -, -, -, -, q9, -⟩, -⟩ := eleven_at T6.out.hb
  have hc4 := hc.n.2
  clear hc
  cases hxm : x.m with
  | nums l =>
    rw [hxm] at hm
    obtain ⟨hm1, hm2, hm3⟩ := hm
    have hen := enc_nums (labs := c.labs) hxm
    have hcm : ∀ s' : Wld, s'.comes c x = if x.t = c.n then s'.wants x.f l else s'.gains x.t l := fun s' => by unfold Wld.comes; rw [hxm]
    have HM2 := Lib.hid hm2
    have HM3 := Lib.hid hm3
    have HEN := Lib.hid hen
    clear hm2 hm3 hen hxm
    rcases hm1 with ⟨ht, hfl⟩ | ⟨hfn, htl⟩
    · exact absurd hcase.out.2 (by omega)
    · skip
      have htb : ((x.t : Int) == (c.n : Int)) = false := by simp; omega
      have hfb : ((x.f : Int) == (c.n : Int)) = true := by simp [hfn]
      have HCM : Hid (s6.comes c x = s6.gains x.t l) := by
        show _ = _
        rw [hcm, if_neg (by omega)]
      clear hcm hfn
      go_quiet (fail)

      have hbq : Below wc.heap.size wc (wc.drewN nq) := below_drewN (Below.refl _ _) _
      obtain ⟨w9, hw9⟩ : ∃ y, y = wc.drewN nq := ⟨_, rfl⟩
      rw [← hw9] at hbq ⊢
      have G9 := Lib.hid (G6.out.on hbq)
      have T9 := Lib.hid (T6.out.on hbq)
      have M9 := Lib.hid (M6.out.on hbq)
      have F9 := Lib.hid (F6.out.upd I6.out (Went.of_below hbq G6.out.at'.lt))
      have I9 := Lib.hid (I6.out.upd (Went.of_below (own := own) hbq G6.out.at'.lt))
      clear x0 x1 x2 x3 x4 x5 x6 x7 x8 q1 q9
      obtain ⟨x0, x1, x2, x3, x4, x5, x6, x7, x8⟩ := G9.out.at'.head
      obtain ⟨⟨-, q1, -, -, -, -, -, -, -, q9, -⟩, -⟩ := eleven_at T9.out.hb
      clear hbq hw9 G6 T6 M6 F6 I6

      have hF := F9.out
      rw [HEN.out, recB_length] at hF
      have CA : Hid (∀ Y, Below w9.heap.size w9 Y → _) := fun Y hY => cAsked HC.out (G9.out.at'.on hY).fix.cfg (.slice a (recSize (askF l)) cc) l (hF.below hY) HM3.out HM2.out
      unfold Cfg.cells at CA
      rw [show (x.enc c.labs).length = recSize (askF l) by rw [HEN.out, recB_length]] at q9
      clear hF
      go_upto_region 23 with (fail)
      go_cut [12] (fun v wx => ∃ a5 c5, v = .slice a5 l.length c5 ∧ Hid (Below w9.heap.size w9 wx) ∧ Hid (Has wx 1 (.slice a5 l.length c5) l.length (ints l)) ∧ Hid (InF (Fr own wx) (.slice a5 l.length c5)))
      case first =>
        go_region_law (go_simp; go_at_call 69; refine (CA.out _ (by repeat (first | exact Below.refl _ _ | refine Below.drew ?_ | refine Below.alloc ?_ (by first | (simp; done) | (simp; omega)) _ | refine Below.setCell ?_ (by first | (simp; done) | (simp; omega)) _))).mono ?_; rintro e w5 ⟨v5, rfl, hown5, hb5⟩; obtain ⟨a5, c5, rfl⟩ := owns_slice hown5)
        all_goals
          have hbb : Below w9.heap.size w9 w5 := Below.trans (by repeat (first | exact Below.refl _ _ | refine Below.drew ?_ | refine Below.alloc ?_ (by first | (simp; done) | (simp; omega)) _ | refine Below.setCell ?_ (by first | (simp; done) | (simp; omega)) _)) (hb5.mono (Nat.le_refl _))
          have hfin := (⟨hbb, Has.of_owns hown5, fr_owns (own := own) G9.out.at'.lt (owns_base hown5 (Nat.le_refl _))⟩ : Below w9.heap.size w9 w5 ∧ Has w5 1 (.slice a5 l.length c5) l.length (ints l) ∧ InF (Fr own w5) (.slice a5 l.length c5))
          have Hfin := Lib.hid hfin
          clear hbb hfin hown5 hb5
          go_wp2_with fail
          go_meet
          exact ⟨_, _, rfl, Hfin.out⟩
      case rest =>
      obtain ⟨a5, c5, rfl, B5, V5, I5⟩ := hcut

      have G10 := Lib.hid (G9.out.on B5.out)
      have T10 := Lib.hid (T9.out.on B5.out)
      have M10 := Lib.hid (M9.out.on B5.out)
      have F10 := Lib.hid (F9.out.upd I9.out (Went.of_below B5.out G9.out.at'.lt))
      have I10 := Lib.hid (I9.out.upd (Went.of_below (own := own) B5.out G9.out.at'.lt))
      clear G9 T9 M9 F9 I9 B5

      clear hfb htb
      obtain ⟨x0, x1, x2, x3, x4, x5, x6, x7, x8⟩ := G10.out.at'.head
      obtain ⟨⟨-, q1, -, -, -, -, -, -, -, q9, -⟩, -⟩ := eleven_at T10.out.hb
      obtain ⟨p0, hp1, hp2⟩ := G10.out.at'.ptr x.t htl
      unfold maxLen at hp2
      have htz : (x.t : Int) < (c.n : Int) := by omega
      have CG : Hid (∀ Y, Below wc.heap.size wc Y → _) := fun Y hY => cGains (G10.out.on hY).at' x.t htl (.slice a5 l.length c5) l (V5.out.below hY) (I5.out.upd (Went.of_below hY G10.out.at'.lt)) HM3.out HM2.out (by have := HC.out.items.2; exact this) (fun k hk => HK.out.gain x.t k htl hk) (fun k hk => Int.le_trans (HK.out.made x.t k htl hk) (by omega))
      go_upto_region 24 with (fail)
      refine wp_still_tail 9 (by kernel_rfl) (by kernel_rfl) ?_
      simp only [List.take_succ_cons, List.take_zero, List.drop_succ_cons, List.drop_zero]
      repeat still_step
      refine wpStill_nil ?_
      go_wp2_with fail
      refine (CG.out _ (Below.drew (Below.refl _ _))).mono ?_
      rintro e w5 ⟨rfl, own5, hW5, hU5⟩
      have HG := Lib.hid ((G10.out.on (Below.drew (Below.refl _ _))).step hW5 hU5)
      have HU := Lib.hid ((Went.of_below (own := own) (Below.drew (Below.refl _ _)) G10.out.at'.lt).trans hU5)
      clear hW5 hU5 CG x0 x1 x2 x3 x4 x5 x6 x7 x8 q1 q9 p0 G10

      have HM := Lib.hid (M10.out.went HU.out)
      have HQ := Lib.hid (T10.out.went HU.out)
      have HF := F10.out.upd I10.out HU.out
      have HI := I10.out.upd HU.out
      have HT := Lib.hid (fun x0 x1 x2 x3 x4 x5 x6 x7 x8 x9 x10 => tld_frame (t := { noT 0 with who := x.t, frame := x.enc c.labs }) HF HI J6.out rfl rfl x0 x1 x2 x3 x4 x5 x6 x7 x8 x9 x10)
      clear HF HI
      obtain ⟨⟨y0, y1, y2, y3, y4, y5, y6, y7, y8, y9, y10⟩, yf⟩ := eleven_at HM.out.hb
      have yf0 := yf 0
      have yf1 := yf 1
      have yf2 := yf 2
      have yf3 := yf 3
      have yf4 := yf 4
      have yf5 := yf 5
      have yf6 := yf 6
      have yf7 := yf 7
      have yf8 := yf 8
      have yf9 := yf 9
      have yf10 := yf 10
      clear yf
      obtain ⟨⟨z0, z1, z2, z3, z4, z5, z6, z7, z8, z9, z10⟩, zf⟩ := eleven_at HQ.out.hb
      have zf0 := zf 0
      have zf1 := zf 1
      have zf2 := zf 2
      have zf3 := zf 3
      have zf4 := zf 4
      have zf5 := zf 5
      have zf6 := zf 6
      have zf7 := zf 7
      have zf8 := zf 8
      have zf9 := zf 9
      have zf10 := zf 10
      clear zf
      obtain ⟨W6, hW6⟩ : ∃ xx, xx = put11 w5 w.heap.size (.int .i64 0) (.int .i64 x.t) (.int .i64 0) (.int .i64 0) (.int .i64 0) (.int .i64 0) (.int .i64 0) (.int .i64 0) (.slice none 0 0) (.slice a (x.enc c.labs).length cc) (.slice none 0 0) := ⟨_, rfl⟩
      have h6 := (HM.out).put11 (.int .i64 0) (.int .i64 x.t) (.int .i64 0) (.int .i64 0) (.int .i64 0) (.int .i64 0) (.int .i64 0) (.int .i64 0) (.slice none 0 0) (.slice a (x.enc c.labs).length cc) (.slice none 0 0)
      have hG6 := (HG.out).set11 (by first | omega | (simp; done) | (simp; omega)) (HM.out).ho (.int .i64 0) (.int .i64 x.t) (.int .i64 0) (.int .i64 0) (.int .i64 0) (.int .i64 0) (.int .i64 0) (.int .i64 0) (.slice none 0 0) (.slice a (x.enc c.labs).length cc) (.slice none 0 0)
      rw [← hW6] at h6 hG6
      unfold put11 at hW6
      have HW6 := Lib.hid hW6
      have HG6 := Lib.hid hG6
      obtain ⟨⟨t0, t1, t2, t3, t4, t5, t6, t7, t8, t9, t10⟩, -⟩ := eleven_at h6.hb
      clear hW6 hG6 h6
      go_wp2_with fail
      rw [← HW6.out]
      refine bodyPost_ret (v := .agg #[.int .i64 0, .int .i64 x.t, .int .i64 0, .int .i64 0, .int .i64 0, .int .i64 0, .int .i64 0, .int .i64 0, .slice none 0 0, .slice a (x.enc c.labs).length cc, .slice none 0 0]) (by simp [results, Tryz.results55, go_sem, t0, t1, t2, t3, t4, t5, t6, t7, t8, t9, t10]) rfl ?_
      exact (by have eX := HX.out; subst eX; exact ⟨own5, nil0, .slice a (s.ls[i].enc c.labs).length cc, nil0, rfl, (by rw [HW6.out]; exact HT.out _ _ _ _ _ _ _ _ _ _ _), (by have q := HG6.out.at'; rw [← HCM.out, HS.out] at q; exact q), HG6.out.go, farF J6.out⟩)
  | rum st =>
    obtain ⟨⟨l, hl⟩, _⟩ := hcase.out
    rw [hxm] at hl; cases hl
end Go.Proofs.YtjdedflfdlhkdaaGreatDoor

namespace Go.Proofs.YtjdedflfdlhkdaaGreatDoor
open Go.ChangeShapes Go.WideShapes Go.ChangeAt Go.RowKit
set_option linter.unusedVariables false
set_option linter.unusedSimpArgs false

set_option maxRecDepth 100000 in
set_option maxHeartbeats 8000000 in
theorem cDelOkG {w : World} {c : Cfg} {X : Adr} {own : Own} {N K : Nat} {s : Wld} (hc : c.Ok) (h : WAt w c X own N s) (hok : WOk c K s) (hK : K ≤ 1000) (hN : N ≤ 999999) (i : Nat) (hi : i < s.ls.length) (hd : s.due i = 0) (hcase : Hid (∃ st, s.ls[i].m = .rum st)) :
    Calls Tryz.prog 55 #[.pointer (some ⟨X.W, 0, none⟩), .int .i64 i] w (Stepped w c X own (N + 1) (s.deliver c i)) := by
  have hdd : s.deliver c i = ({ noT 0 with who := s.ls[i].t, frame := s.ls[i].enc c.labs }, (s.opens i).comes c s.ls[i]) := by
    unfold Wld.deliver
    rw [if_neg (by rw [hd]; decide), if_neg (by rw [hd]; decide)]
    simp only [Int.toNat_natCast, List.getElem?_eq_getElem hi]
  have hnew : s.op (s.from' i) (s.to' i) ≤ i := by
    unfold Wld.due at hd
    rw [if_neg (by omega)] at hd
    simp only [Int.toNat_natCast] at hd
    have hq : ¬ (s.lost i = true ∨ s.old i = true) := fun hh => by rw [if_pos hh] at hd; cases hd
    have hq2 : ¬ s.old i = true := fun hh => hq (.inr hh)
    unfold Wld.old at hq2
    simpa using hq2
  have hop : s.opens i = { s with op := updW s.op s.ls[i].f s.ls[i].t (i + 1) } := by
    unfold Wld.opens; rw [from_at s i hi, to_at s i hi]
  rw [from_at s i hi, to_at s i hi] at hnew
  have hxo := hok.ls _ (List.getElem_mem hi)
  rw [hdd, hop]
  have hb := told_new w
  have hG := (Gone.start h).on hb
  have hM : Mine own _ w.heap.size _ := ⟨(Gone.start h).none (Nat.le_refl _), heap_alloc_new w (.cells #[.int .i64 0, .int .i64 0, .int .i64 0, .int .i64 0, .int .i64 0, .int .i64 0, .int .i64 0, .int .i64 0, .slice none 0 0, .slice none 0 0, .slice none 0 0] 57)⟩
  have G := Lib.hid hG
  have M := Lib.hid hM
  have CD := Lib.hid (cDue hG.at' (by omega) i hi)
  rw [hd] at CD
  have HOK := Lib.hid hok
  have HC := Lib.hid hc
  have HI := Lib.hid hi
  clear hb hG hM h hd hdd hop hok
  go_enter Tryz.func55, Tryz.ntmps55
  go_upto_region 1 with (fail)
  generalize (w.alloc (.cells #[.int .i64 0, .int .i64 0, .int .i64 0, .int .i64 0, .int .i64 0, .int .i64 0, .int .i64 0, .int .i64 0, .slice none 0 0, .slice none 0 0, .slice none 0 0] 57)) = W at *
  go_wp2_with fail
  refine CD.out.mono ?_
  rintro e w2 ⟨rfl, hb2⟩
  have G2 := Lib.hid (G.out.on hb2)
  have M2 := Lib.hid (M.out.on hb2)
  clear hb2 G M CD
  obtain ⟨x0, x1, x2, x3, x4, x5, x6, x7, x8⟩ := G2.out.at'.head
  have CT := Lib.hid (cTo G2.out.at'.off i (by simpa using hi))
  simp only at CT
  rw [ltr_t c.labs s.ls i hi] at CT
  have hto := to_at s i hi
  unfold Wld.to' at hto
  rw [hto] at CT
  have hfo := from_at s i hi
  unfold Wld.from' at hfo
  have hT := heap_alloc_new w2 (.cells #[.int .i64 0, .int .i64 s.ls[i].t, .int .i64 0, .int .i64 0, .int .i64 0, .int .i64 0, .int .i64 0, .int .i64 0, .slice none 0 0, .slice none 0 0, .slice none 0 0] 57)
  have hb3 : Below w2.heap.size w2 (w2.alloc (.cells #[.int .i64 0, .int .i64 s.ls[i].t, .int .i64 0, .int .i64 0, .int .i64 0, .int .i64 0, .int .i64 0, .int .i64 0, .slice none 0 0, .slice none 0 0, .slice none 0 0] 57)) := (Below.refl _ _).alloc (Nat.le_refl _) _
  have G3 := Lib.hid (G2.out.on hb3)
  have M3 := Lib.hid (M2.out.on hb3)
  have HT : Hid (Mine own _ w2.heap.size _) := ⟨G2.out.none (Nat.le_refl _), hT⟩
  have hPT : w.heap.size < w2.heap.size := M2.out.lt
  have CO : Hid (∀ Y, Below (w2.alloc (.cells #[.int .i64 0, .int .i64 s.ls[i].t, .int .i64 0, .int .i64 0, .int .i64 0, .int .i64 0, .int .i64 0, .int .i64 0, .slice none 0 0, .slice none 0 0, .slice none 0 0] 57)).heap.size (w2.alloc (.cells #[.int .i64 0, .int .i64 s.ls[i].t, .int .i64 0, .int .i64 0, .int .i64 0, .int .i64 0, .int .i64 0, .int .i64 0, .slice none 0 0, .slice none 0 0, .slice none 0 0] 57)) Y → _) :=
    fun Y hY => cOpenOk ((G3.out.on hY).at'.off) i (by simpa using hi) (by
      simp only
      rw [ltr_t c.labs s.ls i hi, ltr_f c.labs s.ls i hi, hto, hfo]; exact hnew) (by omega)
  simp only at CO
  rw [ltr_t c.labs s.ls i hi, ltr_f c.labs s.ls i hi, ltr_d c.labs s.ls i hi, hto, hfo] at CO
  clear hb3 hT G2 M2
  go_upto_region 5 with (go_at_call 66; refine CT.out.mono ?_; rintro e w' ⟨rfl, rfl⟩)
  have y0 := cell_on ((Below.refl w2.heap.size w2).alloc (Nat.le_refl _) (.cells #[.int .i64 0, .int .i64 s.ls[i].t, .int .i64 0, .int .i64 0, .int .i64 0, .int .i64 0, .int .i64 0, .int .i64 0, .slice none 0 0, .slice none 0 0, .slice none 0 0] 57)) x7
  have HFX := Lib.hid hfo
  clear x0 x1 x2 x3 x4 x5 x6 x7 x8 CT hto hfo hnew
  generalize (w2.alloc (.cells #[.int .i64 0, .int .i64 s.ls[i].t, .int .i64 0, .int .i64 0, .int .i64 0, .int .i64 0, .int .i64 0, .int .i64 0, .slice none 0 0, .slice none 0 0, .slice none 0 0] 57)) = W3 at *
  generalize w2.heap.size = Q at *
  generalize hx : s.ls[i] = x at *
  have HX := Lib.hid hx
  clear hx
  obtain ⟨⟨z0, z1, z2, z3, z4, z5, z6, z7, z8, z9, z10⟩, zf⟩ := eleven_at HT.out.hb
  have zf0 := zf 0
  have zf1 := zf 1
  have zf2 := zf 2
  have zf3 := zf 3
  have zf4 := zf 4
  have zf5 := zf 5
  have zf6 := zf 6
  have zf7 := zf 7
  have zf8 := zf 8
  have zf9 := zf 9
  have zf10 := zf 10
  clear zf
  go_upto_region 7 with (fail)
  go_cut [36] (fun _ wx => ∃ a cc, Hid (Gone w own wx c X own (N + 1) { s with op := updW s.op x.f x.t (i + 1) }) ∧ Hid (Mine own wx Q (.cells #[.int .i64 0, .int .i64 x.t, .int .i64 0, .int .i64 0, .int .i64 0, .int .i64 0, .int .i64 0, .int .i64 0, .slice none 0 0, .slice a (x.enc c.labs).length cc, .slice none 0 0] 57)) ∧ Hid (Mine own wx w.heap.size (.cells #[.int .i64 0, .int .i64 0, .int .i64 0, .int .i64 0, .int .i64 0, .int .i64 0, .int .i64 0, .int .i64 0, .slice none 0 0, .slice none 0 0, .slice none 0 0] 57)) ∧ Hid (Has wx 1 (.slice a (x.enc c.labs).length cc) (x.enc c.labs).length (u8s (x.enc c.labs))) ∧ Hid (InF (Fr own wx) (.slice a (x.enc c.labs).length cc)) ∧ Hid (InF (fun b => w.heap.size < b) (.slice a (x.enc c.labs).length cc)))
  case first =>
    go_region_law (go_simp; go_at_call 67; refine (CO.out _ (by repeat (first | exact Below.refl _ _ | refine Below.drew ?_ | refine Below.alloc ?_ (by first | (simp; done) | (simp; omega)) _ | refine Below.setCell ?_ (by first | (simp; done) | (simp; omega)) _))).mono ?_; rintro e w5 ⟨a, cc, rfl, hT5, hO5, hI5, hW5⟩; obtain ⟨G5, U5, T5, Y5⟩ := del_open G3.out HT.out (by repeat (first | exact Below.refl _ _ | refine Below.drew ?_ | refine Below.alloc ?_ (by first | (simp; done) | (simp; omega)) _ | refine Below.setCell ?_ (by first | (simp; done) | (simp; omega)) _)) hO5 hW5; obtain ⟨⟨-, -, -, -, -, -, -, -, -, k9, -⟩, kf⟩ := eleven_at T5.hb; have k9f := kf 9; clear kf)
    all_goals
      have M5 := (M3.out.on (Below.drew (Below.refl _ _))).went U5
      have hfin := del_frame G5 M5 T5 hT5 (hI5.mono fun b hb => hb) (by have := G3.out.at'.lt; exact this) U5.wr.size hPT Y5
      have Hfin := Lib.hid hfin
      clear hfin M5 G5 U5 T5 Y5 hT5 hO5 hI5 hW5
      go_wp2_with fail
      go_meet
      exact ⟨_, _, Hfin.out⟩
  case rest =>
  obtain ⟨a, cc, G6, T6, M6, F6, I6, J6⟩ := hcut
  clear G3 M3 HT CO hPT
  obtain ⟨x0, x1, x2, x3, x4, x5, x6, x7, x8⟩ := G6.out.at'.head
  have CF := Lib.hid (cFrom G6.out.at'.off i (by simpa using HI.out))
  simp only at CF
  rw [ltr_f c.labs s.ls i HI.out, HFX.out] at CF
  obtain ⟨⟨-, q1, -, -, -, -, -, -, -, q9, -⟩, -⟩ := eleven_at T6.out.hb
  go_upto_region 15 with (go_at_call 68; refine CF.out.mono ?_; rintro e w' ⟨rfl, rfl⟩)
  obtain ⟨s6, hs6⟩ : ∃ y, y = ({ s with op := updW s.op x.f x.t (i + 1) } : Wld) := ⟨_, rfl⟩
  rw [← hs6] at G6
  have HK : Hid (WOk c K s6) := by rw [hs6]; have q := HOK.out; exact ⟨q.sh, q.made, q.asks, q.gain, q.st, q.bk, q.round, q.ls⟩
  have HS := Lib.hid hs6
  clear hs6 HOK q1 q9 x0 x1 x2 x3 x4 x5 x6 x7 x8 HFX z0 z1 z2 z3 z4 z5 z6 z7 z8 z9 z10 zf0 zf1 zf2 zf3 zf4 zf5 zf6 zf7 zf8 zf9 zf10 y0 CF
  have hm := hxo.m
  obtain ⟨x0, x1, x2, x3, x4, x5, x6, x7, x8⟩ := G6.out.at'.head
  obtain ⟨⟨-, q1, -, -, -, -, -, -, -, q9, -⟩, -⟩ := eleven_at T6.out.hb
  have hc4 := hc.n.2
  clear hc
  cases hxm : x.m with
  | nums l =>
    rw [hxm] at hm
    obtain ⟨hm1, hm2, hm3⟩ := hm
    have hen := enc_nums (labs := c.labs) hxm
    have hcm : ∀ s' : Wld, s'.comes c x = if x.t = c.n then s'.wants x.f l else s'.gains x.t l := fun s' => by unfold Wld.comes; rw [hxm]
    have HM2 := Lib.hid hm2
    have HM3 := Lib.hid hm3
    have HEN := Lib.hid hen
    clear hm2 hm3 hen
    rcases hm1 with ⟨ht, hfl⟩ | ⟨hfn, htl⟩
    · obtain ⟨st, hst⟩ := hcase.out
      rw [hxm] at hst; cases hst
    · obtain ⟨st, hst⟩ := hcase.out
      rw [hxm] at hst; cases hst
  | rum st =>
    rw [hxm] at hm
    obtain ⟨hfl, htl, hst⟩ := hm
    have HST := Lib.hid hst
    have HEN := Lib.hid (enc_rum (labs := c.labs) hxm)
    have htb : ((x.t : Int) == (c.n : Int)) = false := by simp; omega
    have hfb : ((x.f : Int) == (c.n : Int)) = false := by simp; omega
    have HCM : Hid (s6.comes c x = s6.learns x.t (heardL c.labs x.f x.t st)) := by
      show _ = _
      unfold Wld.comes; rw [hxm]
    clear hst hxm
    go_quiet (fail)

    have hbq : Below wc.heap.size wc (wc.drewN nq) := below_drewN (Below.refl _ _) _
    obtain ⟨w9, hw9⟩ : ∃ y, y = wc.drewN nq := ⟨_, rfl⟩
    rw [← hw9] at hbq ⊢
    have G9 := Lib.hid (G6.out.on hbq)
    have T9 := Lib.hid (T6.out.on hbq)
    have M9 := Lib.hid (M6.out.on hbq)
    have F9 := Lib.hid (F6.out.upd I6.out (Went.of_below hbq G6.out.at'.lt))
    have I9 := Lib.hid (I6.out.upd (Went.of_below (own := own) hbq G6.out.at'.lt))
    clear x0 x1 x2 x3 x4 x5 x6 x7 x8 q1 q9
    obtain ⟨x0, x1, x2, x3, x4, x5, x6, x7, x8⟩ := G9.out.at'.head
    obtain ⟨⟨-, q1, -, -, -, -, -, -, -, q9, -⟩, -⟩ := eleven_at T9.out.hb
    clear hbq hw9 G6 T6 M6 F6 I6

    have hF := F9.out
    rw [HEN.out, recB_length] at hF
    have CA : Hid (∀ Y, Below w9.heap.size w9 Y → _) := fun Y hY => cHeard HC.out (G9.out.at'.on hY).fix.cfg x.f x.t hfl htl (.slice a (recSize (rumF c.labs x.f x.t st)) cc) st (fun j hj => ⟨(HST.out j hj).may, (HST.out j hj).v⟩) (hF.below hY)
    have HL : Hid (∀ j, j < c.labs.length → EightL (heardL c.labs x.f x.t st j)) := fun j hj => (heard_ok HST.out j hj).may
    unfold Cfg.cells at CA
    rw [show (x.enc c.labs).length = recSize (rumF c.labs x.f x.t st) by rw [HEN.out, recB_length]] at q9
    have hcl := HC.out.len
    have hlz := Lib.hid (learnsTo_zero s6 x.t (heardL c.labs x.f x.t st))
    have hls := Lib.hid (learnsTo_succ s6 x.t (heardL c.labs x.f x.t st))
    have hla := Lib.hid (learnsTo_all s6 x.t c.labs x.f x.t st)
    generalize heardL c.labs x.f x.t st = H at *
    clear hF
    go_upto_region 9 with (fail)
    go_cut [14] (fun v wx => ∃ g vs, v = .slice (some ⟨g, 0, none⟩) c.labs.length c.labs.length ∧ Hid (Below w9.heap.size w9 wx) ∧ Hid (Mine own wx g (.cells ((List.range c.labs.length).map vs).toArray 43 (0, 0))) ∧ Hid (∀ j, j < c.labs.length → Has wx 5 (vs j) (H j).length (ents (H j)) ∧ InF (Fr own wx) (vs j)))
    case first =>
      go_region_law (go_simp; go_at_call 72; refine (CA.out _ (by repeat (first | exact Below.refl _ _ | refine Below.drew ?_ | refine Below.alloc ?_ (by first | (simp; done) | (simp; omega)) _ | refine Below.setCell ?_ (by first | (simp; done) | (simp; omega)) _))).mono ?_; rintro e w5 ⟨g5, vs5, rfl, hH5⟩)
      all_goals
        have hb5 := hH5.hb
        have hbb : Below w9.heap.size w9 w5 := Below.trans (by repeat (first | exact Below.refl _ _ | refine Below.drew ?_ | refine Below.alloc ?_ (by first | (simp; done) | (simp; omega)) _ | refine Below.setCell ?_ (by first | (simp; done) | (simp; omega)) _)) (hb5.mono (Nat.le_refl _))
        have hfin := heard_free (own := own) G9.out.at'.lt (by exact Nat.le_refl _) hH5
        have Hfin := Lib.hid hfin
        have Hbb := Lib.hid hbb
        clear hbb hfin hb5 hH5
        go_wp2_with fail
        go_meet
        exact ⟨_, _, rfl, Hbb, Hfin.out⟩
    case rest =>
    obtain ⟨g5, vs5, rfl, B5, H5, V5⟩ := hcut

    have G10 := Lib.hid (G9.out.on B5.out)
    have T10 := Lib.hid (T9.out.on B5.out)
    have M10 := Lib.hid (M9.out.on B5.out)
    have F10 := Lib.hid (F9.out.upd I9.out (Went.of_below B5.out G9.out.at'.lt))
    have I10 := Lib.hid (I9.out.upd (Went.of_below (own := own) B5.out G9.out.at'.lt))
    clear G9 T9 M9 F9 I9 B5

    go_wp2_with fail
    go_loopw [16, 17, 69] (fun _ _ j wr => ∃ (k : Nat) (own' : Own), k ≤ c.labs.length ∧ j = .int .i64 k ∧ Hid (Gone w own wr c X own' (N + 1) (s6.learnsTo x.t H k)) ∧ Hid (Went own own' wc wr)) (fun _ _ j _ => c.labs.length - (intOf j).toNat)
    case atStart => exact ⟨0, own, by omega, rfl, by rw [hlz.out]; exact G10, Went.of_below (Below.refl _ _) G10.out.at'.lt⟩
    case round =>
      obtain ⟨k, own1, hk, rfl, HG, HU⟩ := hrel
      by_cases hlt : k < c.labs.length
      · have hltz : (k : Int) < (c.labs.length : Int) := by omega
        obtain ⟨hv, hvi⟩ := V5.out k hlt
        have hv1 := hv.upd hvi HU.out
        have z0 : wr.cell? ⟨g5, k, none⟩ = some (vs5 k) := by
          rw [cell_of_row wr _ _ _ _ _ (H5.out.went HU.out).hb]
          simp [hlt]
        obtain ⟨x0, x1, x2, x3, x4, x5, x6, x7, x8⟩ := HG.out.at'.head
        obtain ⟨⟨-, q1, -, -, -, -, -, -, -, q9, -⟩, -⟩ := eleven_at (T10.out.went HU.out).hb
        obtain ⟨p0, hp1, hp2⟩ := HG.out.at'.ptr x.t htl
        obtain ⟨b0, b1, b2, b3⟩ := HG.out.at'.branch x.t htl
        unfold maxLen at hp2
        have htz : (x.t : Int) < (c.n : Int) := by omega
        have CW : Hid (∀ Y, Below wr.heap.size wr Y → _) := fun Y hY => cLearnW (HG.out.on hY).at' hcl x.t k htl hlt (vs5 k) (H k) (hv1.below hY) (HL.out k hlt)
        have hsu := Lib.hid (hls.out k)
        obtain ⟨_, ak, ck, hvk, _⟩ := hv
        rw [hvk] at z0 CW
        generalize H k = y at *
        clear hv1 hvi hvk
        go_upto_region 13 with (fail)
        refine wp_still_tail 13 (by kernel_rfl) (by kernel_rfl) ?_
        simp only [List.take_succ_cons, List.take_zero, List.drop_succ_cons, List.drop_zero]
        repeat still_step
        refine wpStill_nil ?_
        go_wp2_with fail
        refine (CW.out _ (Below.drew (Below.refl _ _))).mono ?_
        rintro e w5 ⟨rfl, own5, hW5, hU5⟩
        have HG5 : Hid (Gone w own w5 c X own5 (N + 1) (s6.learnsTo x.t H (k + 1))) := by
          show Gone _ _ _ _ _ _ _ _
          rw [hsu.out]; exact (HG.out.on (Below.drew (Below.refl _ _))).step hW5 hU5
        have HU5 := Lib.hid (HU.out.trans ((Went.of_below (own := own1) (Below.drew (Below.refl _ _)) HG.out.at'.lt).trans hU5))
        clear hW5 hU5 CW z0 x0 x1 x2 x3 x4 x5 x6 x7 x8 p0 HG HU b0 b1 b2 b3 q1 q9
        go_wp2_with fail
        go_roundw
        case rel => exact ⟨k + 1, own5, by omega, by go_num, HG5, HU5⟩
        case measure => first | (simp [intOf]; done) | (simp [intOf]; omega)
      · obtain rfl : k = c.labs.length := by omega
        rw [hla.out] at HG
        have HM := Lib.hid (M10.out.went HU.out)
        have HQ := Lib.hid (T10.out.went HU.out)
        have HF := F10.out.upd I10.out HU.out
        have HI := I10.out.upd HU.out
        have HT := Lib.hid (fun x0 x1 x2 x3 x4 x5 x6 x7 x8 x9 x10 => tld_frame (t := { noT 0 with who := x.t, frame := x.enc c.labs }) HF HI J6.out rfl rfl x0 x1 x2 x3 x4 x5 x6 x7 x8 x9 x10)
        clear HF HI
        obtain ⟨⟨y0, y1, y2, y3, y4, y5, y6, y7, y8, y9, y10⟩, yf⟩ := eleven_at HM.out.hb
        have yf0 := yf 0
        have yf1 := yf 1
        have yf2 := yf 2
        have yf3 := yf 3
        have yf4 := yf 4
        have yf5 := yf 5
        have yf6 := yf 6
        have yf7 := yf 7
        have yf8 := yf 8
        have yf9 := yf 9
        have yf10 := yf 10
        clear yf
        obtain ⟨⟨z0, z1, z2, z3, z4, z5, z6, z7, z8, z9, z10⟩, zf⟩ := eleven_at HQ.out.hb
        have zf0 := zf 0
        have zf1 := zf 1
        have zf2 := zf 2
        have zf3 := zf 3
        have zf4 := zf 4
        have zf5 := zf 5
        have zf6 := zf 6
        have zf7 := zf 7
        have zf8 := zf 8
        have zf9 := zf 9
        have zf10 := zf 10
        clear zf
        obtain ⟨W6, hW6⟩ : ∃ xx, xx = put11 wr w.heap.size (.int .i64 0) (.int .i64 x.t) (.int .i64 0) (.int .i64 0) (.int .i64 0) (.int .i64 0) (.int .i64 0) (.int .i64 0) (.slice none 0 0) (.slice a (x.enc c.labs).length cc) (.slice none 0 0) := ⟨_, rfl⟩
        have h6 := (HM.out).put11 (.int .i64 0) (.int .i64 x.t) (.int .i64 0) (.int .i64 0) (.int .i64 0) (.int .i64 0) (.int .i64 0) (.int .i64 0) (.slice none 0 0) (.slice a (x.enc c.labs).length cc) (.slice none 0 0)
        have hG6 := (HG.out).set11 (by first | omega | (simp; done) | (simp; omega)) (HM.out).ho (.int .i64 0) (.int .i64 x.t) (.int .i64 0) (.int .i64 0) (.int .i64 0) (.int .i64 0) (.int .i64 0) (.int .i64 0) (.slice none 0 0) (.slice a (x.enc c.labs).length cc) (.slice none 0 0)
        rw [← hW6] at h6 hG6
        unfold put11 at hW6
        have HW6 := Lib.hid hW6
        have HG6 := Lib.hid hG6
        obtain ⟨⟨t0, t1, t2, t3, t4, t5, t6, t7, t8, t9, t10⟩, -⟩ := eleven_at h6.hb
        clear hW6 hG6 h6
        go_wp2_with fail
        rw [← HW6.out]
        refine bodyPost_ret (v := .agg #[.int .i64 0, .int .i64 x.t, .int .i64 0, .int .i64 0, .int .i64 0, .int .i64 0, .int .i64 0, .int .i64 0, .slice none 0 0, .slice a (x.enc c.labs).length cc, .slice none 0 0]) (by simp [results, Tryz.results55, go_sem, t0, t1, t2, t3, t4, t5, t6, t7, t8, t9, t10]) rfl ?_
        exact (by have eX := HX.out; subst eX; exact ⟨own1, nil0, .slice a (s.ls[i].enc c.labs).length cc, nil0, rfl, (by rw [HW6.out]; exact HT.out _ _ _ _ _ _ _ _ _ _ _), (by have q := HG6.out.at'; rw [← HCM.out, HS.out] at q; exact q), HG6.out.go, farF J6.out⟩)
end Go.Proofs.YtjdedflfdlhkdaaGreatDoor

namespace Go.Proofs.YtjdedflfdlhkdaaGreatDoor
open Go.ChangeShapes Go.WideShapes Go.ChangeAt Go.RowKit
set_option linter.unusedVariables false
set_option linter.unusedSimpArgs false

theorem cDelOk {w : World} {c : Cfg} {X : Adr} {own : Own} {N K : Nat} {s : Wld} (hc : c.Ok) (h : WAt w c X own N s) (hok : WOk c K s) (hK : K ≤ 1000) (hN : N ≤ 999999) (i : Nat) (hi : i < s.ls.length) (hd : s.due i = 0) :
    Calls Tryz.prog 55 #[.pointer (some ⟨X.W, 0, none⟩), .int .i64 i] w (Stepped w c X own (N + 1) (s.deliver c i)) := by
  have hm := (hok.ls _ (List.getElem_mem hi)).m
  cases hxm : s.ls[i].m with
  | nums l =>
    rw [hxm] at hm
    rcases hm.1 with ⟨ht, _⟩ | ⟨hf, _⟩
    · exact cDelOkE hc h hok hK hN i hi hd ⟨⟨l, hxm⟩, ht⟩
    · exact cDelOkF hc h hok hK hN i hi hd ⟨⟨l, hxm⟩, hf⟩
  | rum st => exact cDelOkG hc h hok hK hN i hi hd ⟨st, hxm⟩
end Go.Proofs.YtjdedflfdlhkdaaGreatDoor
