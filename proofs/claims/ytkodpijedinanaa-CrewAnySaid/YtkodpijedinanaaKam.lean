/- Texts that the claim imports, laid together: MgD MwB MgC MrK. No statement of their own. -/
import Derived.Conc.DeferLaws
import Derived.Test.YtkodpijedinanaaKal
namespace Go.Proofs.Ytkodpijedinanaa.Sim
open Go Go.Conc Go.ConcN Go.RowKit Go.Conc.Lib Go.ConcR.Gen Go.ConcN.Gen
open Go.ConcR (KK wgBlock WgAt stA smA rd wr mk Payload Aside2 DC0)
set_option linter.unusedVariables false
set_option linter.unusedSimpArgs false

section
variable {P : Program} {L : WgLink} {W0 : World} {lo : Nat} {Post : Value → World → Prop} {n : Nat} {jobs : Nat → Option Job} {Wg B : Nat} {Sh : Shd} {Own : Blk} {W : World}
  {b₀ : Frame} {a₀ : Act} {ops₀ : Array Oper} {i₀ : Nat} {rest₀ : List Nat} {k₀ : List Item} {cs : List Frame}
set_option maxRecDepth 100000 in
set_option maxHeartbeats 16000000 in
theorem wait_round (H : WgLib P L) (hgr : Sh.grp Wg) (hno : ¬ Own Wg ∧ ¬ Sh Wg ∧ ∀ o, ¬ Sh.cel Wg o) {O : World → (Nat → Value) → (Nat → Blk) → Blk} {S : World → (Nat → Value) → (Nat → Blk) → Shd}
    (hJ : ∀ w vals owns, OnWay Own Sh Wg W w → Handed jobs Own Sh vals owns w → Joins lo Own Sh jobs owns (O w vals owns) (S w vals owns))
    (hT : ∀ w vals owns w', OnWay Own Sh Wg W w → Handed jobs Own Sh vals owns w → Rely (O w vals owns) (S w vals owns) w w' → MGo P W0 lo Post n (fun _ => none) .ret Wg 0 0 (S w vals owns) (O w vals owns) (G (b₀.at (a₀.put ((ops₀[i₀]?).bind (·.dst)) (.tuple #[])) (.inRegion ops₀ rest₀ :: k₀)) cs) w') :
    ∀ B, B < 2147483648 → ∀ (T : Array Value) (w : World), T.size = 84 → T[0]? = some (.pointer (some ⟨Wg, 0, none⟩)) → OnWay Own Sh Wg W w →
      MGo P W0 lo Post n jobs .kd Wg B 1 Sh Own (G ((base L.wait).at ⟨T, []⟩ [.code (L7 L), .inLoop (L7 L), .inBlock 0]) (b₀.at a₀ (.inRegion ops₀ (i₀ :: rest₀) :: k₀) :: cs)) w := by
  intro B
  induction B using Nat.strongRecOn with
  | _ B ih =>
  intro hB T w hT84 t0 hF
  lib_facts
  obtain ⟨s0, s1, s2, s3, s4, s5, s6, s7, s8, s9, s10, s11, s12, s13, s14, s15, s16, s17, s18, s19, s20, s21, s22, s23, s24, s25, s26, s27, s28, s29, s30, s31, s32, s33, s34, s35, s36, s37, s38, s39, s40, s41, s42, s43, s44, s45, s46, s47, s48, s49, s50, s51, s52, s53, s54, s55, s56, s57, s58, s59, s60, s61, s62, s63, s64, s65, s66, s67, s68, s69, s70, s71, s72, s73, s74, s75, s76, s77, s78, s79, s80, s81, s82, s83, rfl⟩ := array84 T hT84
  simp only [List.getElem?_toArray, List.getElem?_cons_zero, Option.some.injEq] at t0
  subst t0
  refine mgo_seg (by simp) 100 ?_
  simp only [L7, body_wait, waitFn, Option.getD_some]
  u_c stepG_block (onWay_rely hgr) hF
  u_c stepG_seq (onWay_rely hgr) hF
  u_reg (onWay_rely hgr) hF
  u_op (onWay_rely hgr) hF
  u_op (onWay_rely hgr) hF
  u_op (onWay_rely hgr) hF
  u_call H.f_uLoad (nm_uLoad L) uLoadFn (onWay_rely hgr) hF
  u_c stepG_seq (onWay_rely hgr) hF
  u_reg (onWay_rely hgr) hF
  u_op (onWay_rely hgr) hF
  u_c stepG_region_end (onWay_rely hgr) hF
  u_c stepG_seq (onWay_rely hgr) hF
  u_reg (onWay_rely hgr) hF
  u_op (onWay_rely hgr) hF
  u_op (onWay_rely hgr) hF
  u_op (onWay_rely hgr) hF
  refine Goes.stop (fun w₁ h₁ => ?_)
  replace hF := onWay_rely hgr hF h₁
  clear h₁
  refine .load' rfl (fun w₄ v h₄ hv hw => ?_)
  replace hF := onWay_rely hgr hF h₄
  clear h₄
  rcases Nat.eq_zero_or_pos v with rfl | hvp
  · replace hw : WgAt tyWg Wg w₄ 0 0 := by simpa using hw
    refine ⟨_, stepG_load_atomic (v := 0) rfl rfl (by k_ne) rfl H.f_loadU64 (x_loadU64_n L) (x_loadU64_b L) (x_loadU64_x L) .u64 (x_loadU64_f L) rfl hw.cellSt, fun _ => ?_, fun h => absurd h (by omega)⟩
    clear hw
    refine mgo_seg (by simp) 100 ?_
    walk_nrm
    u_op (onWay_rely hgr) hF
    u_c stepG_region_end (onWay_rely hgr) hF
    u_c stepG_ret' (onWay_rely hgr) hF
    u_leave1 H.f_uLoad (onWay_rely hgr) hF
    u_op (onWay_rely hgr) hF
    u_c stepG_region_end (onWay_rely hgr) hF
    u_c stepG_seq (onWay_rely hgr) hF
    u_reg (onWay_rely hgr) hF
    u_op (onWay_rely hgr) hF
    u_op (onWay_rely hgr) hF
    u_op (onWay_rely hgr) hF
    u_op (onWay_rely hgr) hF
    u_c stepG_region_end (onWay_rely hgr) hF
    u_c stepG_seq (onWay_rely hgr) hF
    u_reg (onWay_rely hgr) hF
    u_op (onWay_rely hgr) hF
    u_op (onWay_rely hgr) hF
    u_op (onWay_rely hgr) hF
    u_op (onWay_rely hgr) hF
    u_c stepG_region_end (onWay_rely hgr) hF
    u_c stepG_seq (onWay_rely hgr) hF
    u_c stepG_seq (onWay_rely hgr) hF
    u_reg (onWay_rely hgr) hF
    u_op (onWay_rely hgr) hF
    u_op (onWay_rely hgr) hF
    u_c stepG_region_end (onWay_rely hgr) hF
    u_cond true (onWay_rely hgr) hF
    u_c stepG_seq (onWay_rely hgr) hF
    u_cond true (onWay_rely hgr) hF
    u_c stepG_seq (onWay_rely hgr) hF
    u_reg (onWay_rely hgr) hF
    refine Goes.stop (fun w₅ h₁ => ?_)
    replace hF := onWay_rely hgr hF h₁
    clear h₁
    refine .book (es := #[mk .enable]) rfl (by simp) (by simp) (fun W1 _ => stepG_mark0 .enable (by simp) rfl rfl (by k_ne) rfl H.f_enable (x_enable_n L) (x_enable_b L) (x_enable_x L) (x_enable_f L)) (fun e he => by simp at he; subst he; exact .inr (.inl rfl)) ?_
    rw [show deafBehind 1 #[mk .enable] = 0 from rfl]
    refine mgo_seg (by simp) 60 ?_
    walk_nrm
    u_c stepG_region_end (onWay_rely hgr) hF
    u_reg (onWay_rely hgr) hF
    u_op (onWay_rely hgr) hF
    u_conv H.underlying_tWgP H.room_tWg (WgLive.cell0 hF.2).choose_spec (onWay_rely hgr) hF
    refine Goes.stop (fun w₆ h₁ => ?_)
    replace hF := onWay_rely hgr hF h₁
    clear h₁
    refine .acq (O := O) (S := S) rfl (fun W1 _ => stepG_markAt .acquire (by simp) rfl rfl (by k_ne) rfl H.f_acquire (x_acquire_n L) (x_acquire_b L) (x_acquire_x L) (x_acquire_f L) (by simp [Act.eval, stA])) (fun W1 vals owns hr hH => hJ W1 vals owns (onWay_rely hgr hF hr) hH) fun W1 vals owns hr hH => ?_
    have hF2 : Rely (O W1 vals owns) (S W1 vals owns) W1 W1 := .refl _ _ _
    have hW1 := onWay_rely hgr hF hr
    refine mgo_seg (by simp) 100 ?_
    walk_nrm
    u_c stepG_region_end (fun h r => Rely.trans h r) hF2
    u_c stepG_seq (fun h r => Rely.trans h r) hF2
    u_c stepG_seq (fun h r => Rely.trans h r) hF2
    u_reg (fun h r => Rely.trans h r) hF2
    u_op (fun h r => Rely.trans h r) hF2
    u_op (fun h r => Rely.trans h r) hF2
    u_op (fun h r => Rely.trans h r) hF2
    u_op (fun h r => Rely.trans h r) hF2
    u_op (fun h r => Rely.trans h r) hF2
    u_op (fun h r => Rely.trans h r) hF2
    u_op (fun h r => Rely.trans h r) hF2
    u_op (fun h r => Rely.trans h r) hF2
    u_skip (fun h r => Rely.trans h r) hF2
    u_skip (fun h r => Rely.trans h r) hF2
    u_op (fun h r => Rely.trans h r) hF2
    u_c stepG_region_end (fun h r => Rely.trans h r) hF2
    u_cond false (fun h r => Rely.trans h r) hF2
    u_c stepG_skip (fun h r => Rely.trans h r) hF2
    u_c stepG_ret' (fun h r => Rely.trans h r) hF2
    u_leave0 H.f_wait (fun h r => Rely.trans h r) hF2
    exact Goes.stop (fun w h => hT W1 vals owns w hW1 hH (hF2.trans h))
  · obtain ⟨S', hS⟩ : ∃ S' : Int, (v : Int) * KK = S' := ⟨_, rfl⟩
    have a1 : S' / 4294967296 = (v : Int) := by rw [← hS]; simp only [KK]; omega
    have b1 : bits .and .u64 S' 2147483648 = 0 := by rw [← hS]; have := st_flag v 0 (by omega) (by omega); simpa [KK] using this
    have b2 : bits .and .u64 S' 2147483647 = 0 := by rw [← hS]; have := st_waiters v 0 (by omega) (by omega); simpa [KK] using this
    have c1 : IntKind.i32.wrap (v : Int) = (v : Int) := by rw [IntKind.wrap_i32]; omega
    have w1 : IntKind.u64.wrap (S' + 1) = S' + 1 := by rw [IntKind.wrap_u64, ← hS]; simp only [KK]; omega
    have q3 : decide ((v : Int) < 0) = false := decide_eq_false (by omega)
    have q4 : decide (0 < (v : Int)) = true := decide_eq_true (by omega)
    have q5 : ((v : Int) == 0) = false := by simp; omega
    have q6 : decide ((v : Int) = 0) = false := decide_eq_false (by omega)
    rw [hS] at hw
    refine ⟨_, stepG_load_atomic (v := S') rfl rfl (by k_ne) rfl H.f_loadU64 (x_loadU64_n L) (x_loadU64_b L) (x_loadU64_x L) .u64 (x_loadU64_f L) rfl hw.cellSt, fun h0 => absurd h0 (by omega), fun _ => ?_⟩
    clear hw
    refine mgo_seg (by simp) 120 ?_
    walk_nrm
    u_op (onWay_rely hgr) hF
    u_c stepG_region_end (onWay_rely hgr) hF
    u_c stepG_ret' (onWay_rely hgr) hF
    u_leave1 H.f_uLoad (onWay_rely hgr) hF
    u_op (onWay_rely hgr) hF
    u_c stepG_region_end (onWay_rely hgr) hF
    u_c stepG_seq (onWay_rely hgr) hF
    u_reg (onWay_rely hgr) hF
    u_op (onWay_rely hgr) hF
    u_op (onWay_rely hgr) hF
    u_op (onWay_rely hgr) hF
    u_op (onWay_rely hgr) hF
    u_c stepG_region_end (onWay_rely hgr) hF
    u_c stepG_seq (onWay_rely hgr) hF
    u_reg (onWay_rely hgr) hF
    u_op (onWay_rely hgr) hF
    u_op (onWay_rely hgr) hF
    u_op (onWay_rely hgr) hF
    u_op (onWay_rely hgr) hF
    u_c stepG_region_end (onWay_rely hgr) hF
    u_c stepG_seq (onWay_rely hgr) hF
    u_c stepG_seq (onWay_rely hgr) hF
    u_reg (onWay_rely hgr) hF
    u_op (onWay_rely hgr) hF
    u_op (onWay_rely hgr) hF
    u_c stepG_region_end (onWay_rely hgr) hF
    u_cnd false (onWay_rely hgr) hF
    u_c stepG_skip (onWay_rely hgr) hF
    u_c stepG_seq (onWay_rely hgr) hF
    u_reg (onWay_rely hgr) hF
    u_op (onWay_rely hgr) hF
    u_op (onWay_rely hgr) hF
    u_op (onWay_rely hgr) hF
    u_op (onWay_rely hgr) hF
    u_op (onWay_rely hgr) hF
    u_op (onWay_rely hgr) hF
    u_call H.f_uCas (nm_uCas L) uCasFn (onWay_rely hgr) hF
    u_c stepG_seq (onWay_rely hgr) hF
    u_reg (onWay_rely hgr) hF
    u_op (onWay_rely hgr) hF
    u_c stepG_region_end (onWay_rely hgr) hF
    u_c stepG_seq (onWay_rely hgr) hF
    u_reg (onWay_rely hgr) hF
    u_op (onWay_rely hgr) hF
    u_op (onWay_rely hgr) hF
    u_op (onWay_rely hgr) hF
    u_op (onWay_rely hgr) hF
    u_op (onWay_rely hgr) hF
    refine Goes.stop (fun w₂ h₁ => ?_)
    replace hF := onWay_rely hgr hF h₁
    clear h₁
    refine .cas' rfl hvp (fun w₃ h₃ hw => ?_) (fun w₃ v' h₃ hv' hw => ?_)
    · replace hF := onWay_rely hgr hF h₃
      clear h₃
      rw [hS] at hw ⊢
      refine ⟨_, (stepG_cas_hit (v := S') (n := S' + 1) rfl rfl (by k_ne) rfl H.f_casU64 (x_casU64_n L) (x_casU64_b L) (x_casU64_x L) .u64 (x_casU64_f L) rfl rfl rfl hw.cellSt (hw.thaw 0)).trans (by rfl), ?_⟩
      replace hF := onWay_set hno (a := stA Wg) rfl hF hw (hw.setSt (S' + 1))
      clear hw
      refine mgo_seg (by simp) 120 ?_
      walk_nrm
      u_op (onWay_rely hgr) hF
      u_c stepG_region_end (onWay_rely hgr) hF
      u_c stepG_ret' (onWay_rely hgr) hF
      u_leave1 H.f_uCas (onWay_rely hgr) hF
      u_c stepG_region_end (onWay_rely hgr) hF
      u_cond true (onWay_rely hgr) hF
      u_c stepG_seq (onWay_rely hgr) hF
      u_c stepG_seq (onWay_rely hgr) hF
      u_reg (onWay_rely hgr) hF
      u_op (onWay_rely hgr) hF
      u_op (onWay_rely hgr) hF
      u_op (onWay_rely hgr) hF
      u_op (onWay_rely hgr) hF
      u_c stepG_region_end (onWay_rely hgr) hF
      u_cond true (onWay_rely hgr) hF
      u_reg (onWay_rely hgr) hF
      u_op (onWay_rely hgr) hF
      u_op (onWay_rely hgr) hF
      u_op (onWay_rely hgr) hF
      u_conv H.underlying_tPU32 H.room_tU32 (WgLive.cell1 hF.2).choose_spec (onWay_rely hgr) hF
      refine Goes.stop (fun w₄ h₁ => ?_)
      replace hF := onWay_rely hgr hF h₁
      clear h₁
      refine .book (es := #[mk (.write ⟨Wg, 1, none⟩)]) rfl (by simp) (by simp) (fun W1 _ => stepG_markAt .write (by simp) rfl rfl (by k_ne) rfl H.f_raceWrite (x_raceWrite_n L) (x_raceWrite_b L) (x_raceWrite_x L) (x_raceWrite_f L) (ad := ⟨Wg, 1, none⟩) (by simp [Act.eval])) (fun e he => by simp at he; subst he; exact .inr (.inr ⟨_, rfl, .inr rfl⟩)) ?_
      rw [show deafBehind 1 #[mk (.write ⟨Wg, 1, none⟩)] = 1 from rfl]
      refine mgo_seg (by simp) 100 ?_
      walk_nrm
      u_c stepG_region_end (onWay_rely hgr) hF
      u_c stepG_seq (onWay_rely hgr) hF
      u_reg (onWay_rely hgr) hF
      u_op (onWay_rely hgr) hF
      u_c stepG_region_end (onWay_rely hgr) hF
      u_c stepG_seq (onWay_rely hgr) hF
      u_c stepG_seq (onWay_rely hgr) hF
      u_reg (onWay_rely hgr) hF
      u_op (onWay_rely hgr) hF
      u_op (onWay_rely hgr) hF
      u_op (onWay_rely hgr) hF
      u_op (onWay_rely hgr) hF
      u_skip (onWay_rely hgr) hF
      u_op (onWay_rely hgr) hF
      u_c stepG_region_end (onWay_rely hgr) hF
      u_cond false (onWay_rely hgr) hF
      u_c stepG_skip (onWay_rely hgr) hF
      u_c stepG_seq (onWay_rely hgr) hF
      u_reg (onWay_rely hgr) hF
      u_op (onWay_rely hgr) hF
      u_op (onWay_rely hgr) hF
      u_op (onWay_rely hgr) hF
      u_op (onWay_rely hgr) hF
      refine Goes.stop (fun w₄ h₁ => ?_)
      replace hF := onWay_rely hgr hF h₁
      clear h₁
      refine .sema' rfl rfl (fun w₅ h₅ ⟨s, hw⟩ => stepG_semacquire_wait rfl rfl rfl H.f_semacquire (x_semacquire_n L) (x_semacquire_b L) (x_semacquire_x L) (x_semacquire_f L) (by simp [Act.eval, smA]) hw.cellSm) (fun w₅ h₅ hf => ?_)
      replace hF := onWay_rely hgr hF h₅
      clear h₅
      refine ⟨_, (stepG_semacquire (n := 1) rfl rfl (by k_ne) rfl H.f_semacquire (x_semacquire_n L) (x_semacquire_b L) (x_semacquire_x L) (x_semacquire_f L) (by simp [Act.eval, smA]) hf.cellSm (by k_ne) (hf.thaw 1)).trans (by rfl), ?_⟩
      replace hF := onWay_set hno (a := smA Wg) rfl hF hf (hf.setSm 0)
      clear hf
      refine mgo_seg (by simp) 100 ?_
      walk_nrm
      u_c stepG_region_end (onWay_rely hgr) hF
      u_c stepG_seq (onWay_rely hgr) hF
      u_reg (onWay_rely hgr) hF
      u_op (onWay_rely hgr) hF
      u_op (onWay_rely hgr) hF
      u_op (onWay_rely hgr) hF
      u_call H.f_uLoad (nm_uLoad L) uLoadFn (onWay_rely hgr) hF
      u_c stepG_seq (onWay_rely hgr) hF
      u_reg (onWay_rely hgr) hF
      u_op (onWay_rely hgr) hF
      u_c stepG_region_end (onWay_rely hgr) hF
      u_c stepG_seq (onWay_rely hgr) hF
      u_reg (onWay_rely hgr) hF
      u_op (onWay_rely hgr) hF
      u_op (onWay_rely hgr) hF
      u_op (onWay_rely hgr) hF
      refine Goes.stop (fun w₆ h₁ => ?_)
      replace hF := onWay_rely hgr hF h₁
      clear h₁
      refine .again' rfl (fun w₇ h₇ hw => ?_)
      replace hF := onWay_rely hgr hF h₇
      clear h₇
      refine ⟨_, stepG_load_atomic (v := 0) rfl rfl (by k_ne) rfl H.f_loadU64 (x_loadU64_n L) (x_loadU64_b L) (x_loadU64_x L) .u64 (x_loadU64_f L) rfl hw.cellSt, ?_⟩
      clear hw
      refine mgo_seg (by simp) 100 ?_
      walk_nrm
      u_op (onWay_rely hgr) hF
      u_c stepG_region_end (onWay_rely hgr) hF
      u_c stepG_ret' (onWay_rely hgr) hF
      u_leave1 H.f_uLoad (onWay_rely hgr) hF
      u_op (onWay_rely hgr) hF
      u_op (onWay_rely hgr) hF
      u_c stepG_region_end (onWay_rely hgr) hF
      u_c stepG_seq (onWay_rely hgr) hF
      u_cond true (onWay_rely hgr) hF
      u_c stepG_seq (onWay_rely hgr) hF
      u_reg (onWay_rely hgr) hF
      refine Goes.stop (fun w₅ h₁ => ?_)
      replace hF := onWay_rely hgr hF h₁
      clear h₁
      refine .book (es := #[mk .enable]) rfl (by simp) (by simp) (fun W1 _ => stepG_mark0 .enable (by simp) rfl rfl (by k_ne) rfl H.f_enable (x_enable_n L) (x_enable_b L) (x_enable_x L) (x_enable_f L)) (fun e he => by simp at he; subst he; exact .inr (.inl rfl)) ?_
      rw [show deafBehind 1 #[mk .enable] = 0 from rfl]
      refine mgo_seg (by simp) 60 ?_
      walk_nrm
      u_c stepG_region_end (onWay_rely hgr) hF
      u_reg (onWay_rely hgr) hF
      u_op (onWay_rely hgr) hF
      u_conv H.underlying_tWgP H.room_tWg (WgLive.cell0 hF.2).choose_spec (onWay_rely hgr) hF
      refine Goes.stop (fun w₆ h₁ => ?_)
      replace hF := onWay_rely hgr hF h₁
      clear h₁
      refine .acq (O := O) (S := S) rfl (fun W1 _ => stepG_markAt .acquire (by simp) rfl rfl (by k_ne) rfl H.f_acquire (x_acquire_n L) (x_acquire_b L) (x_acquire_x L) (x_acquire_f L) (by simp [Act.eval, stA])) (fun W1 vals owns hr hH => hJ W1 vals owns (onWay_rely hgr hF hr) hH) fun W1 vals owns hr hH => ?_
      have hF2 : Rely (O W1 vals owns) (S W1 vals owns) W1 W1 := .refl _ _ _
      have hW1 := onWay_rely hgr hF hr
      refine mgo_seg (by simp) 100 ?_
      walk_nrm
      u_c stepG_region_end (fun h r => Rely.trans h r) hF2
      u_c stepG_seq (fun h r => Rely.trans h r) hF2
      u_c stepG_seq (fun h r => Rely.trans h r) hF2
      u_reg (fun h r => Rely.trans h r) hF2
      u_op (fun h r => Rely.trans h r) hF2
      u_c stepG_region_end (fun h r => Rely.trans h r) hF2
      u_cond false (fun h r => Rely.trans h r) hF2
      u_c stepG_skip (fun h r => Rely.trans h r) hF2
      u_c stepG_ret' (fun h r => Rely.trans h r) hF2
      u_leave0 H.f_wait (fun h r => Rely.trans h r) hF2
      exact Goes.stop (fun w h => hT W1 vals owns w hW1 hH (hF2.trans h))
    · replace hF := onWay_rely hgr hF h₃
      clear h₃
      refine ⟨_, stepG_cas_miss (v := (v' : Int) * KK) (old := S') (n := S' + 1) rfl rfl (by k_ne) rfl H.f_casU64 (x_casU64_n L) (x_casU64_b L) (x_casU64_x L) .u64 (x_casU64_f L) rfl rfl rfl hw.cellSt (hw.thaw 0) (by rw [← hS]; simp only [KK]; omega), ?_⟩
      clear hw
      refine mgo_seg (by simp) 60 ?_
      walk_nrm
      u_op (onWay_rely hgr) hF
      u_c stepG_region_end (onWay_rely hgr) hF
      u_c stepG_ret' (onWay_rely hgr) hF
      u_leave1 H.f_uCas (onWay_rely hgr) hF
      u_c stepG_region_end (onWay_rely hgr) hF
      u_cond false (onWay_rely hgr) hF
      u_c stepG_skip (onWay_rely hgr) hF
      u_c stepG_inBlock (onWay_rely hgr) hF
      u_c stepG_inLoop (onWay_rely hgr) hF
      refine Goes.stop (fun w₃ h₃ => ih v' (by omega) (by omega) _ w₃ (by simp) (by simp) (onWay_rely hgr hF h₃))
set_option maxRecDepth 100000 in
set_option maxHeartbeats 16000000 in
theorem wait_walk (H : WgLib P L) (hgr : Sh.grp Wg) (hno : ¬ Own Wg ∧ ¬ Sh Wg ∧ ∀ o, ¬ Sh.cel Wg o) {O : World → (Nat → Value) → (Nat → Blk) → Blk} {S : World → (Nat → Value) → (Nat → Blk) → Shd}
    (hJ : ∀ w vals owns, OnWay Own Sh Wg W w → Handed jobs Own Sh vals owns w → Joins lo Own Sh jobs owns (O w vals owns) (S w vals owns))
    (hT : ∀ w vals owns w', OnWay Own Sh Wg W w → Handed jobs Own Sh vals owns w → Rely (O w vals owns) (S w vals owns) w w' → MGo P W0 lo Post n (fun _ => none) .ret Wg 0 0 (S w vals owns) (O w vals owns) (G (b₀.at (a₀.put ((ops₀[i₀]?).bind (·.dst)) (.tuple #[])) (.inRegion ops₀ rest₀ :: k₀)) cs) w') (hB : B < 2147483648) (hF : OnWay Own Sh Wg W W) :
    MGo P W0 lo Post n jobs .kd Wg B 0 Sh Own (G ((base L.wait).at ⟨#[.pointer (some ⟨Wg, 0, none⟩), undef, undef, undef, undef, undef, undef, undef, undef, undef, undef, undef, undef, undef, undef, undef, undef, undef, undef, undef, undef, undef, undef, undef, undef, undef, undef, undef, undef, undef, undef, undef, undef, undef, undef, undef, undef, undef, undef, undef, undef, undef, undef, undef, undef, undef, undef, undef, undef, undef, undef, undef, undef, undef, undef, undef, undef, undef, undef, undef, undef, undef, undef, undef, undef, undef, undef, undef, undef, undef, undef, undef, undef, undef, undef, undef, undef, undef, undef, undef, undef, undef, undef, undef], []⟩ [.code (body_wait L)]) (b₀.at a₀ (.inRegion ops₀ (i₀ :: rest₀) :: k₀) :: cs)) W := by
  lib_facts
  simp only [body_wait, waitFn, Option.getD_some]
  refine mgo_seg (by simp) 10 ?_
  u_c stepG_seq (onWay_rely hgr) hF
  u_cond true (onWay_rely hgr) hF
  u_reg (onWay_rely hgr) hF
  refine Goes.stop (fun w₁ h₁ => ?_)
  replace hF := onWay_rely hgr hF h₁
  clear h₁
  refine .book (es := #[mk .disable]) rfl (by simp) (by simp) (fun W1 _ => stepG_mark0 .disable (by simp) rfl rfl (by k_ne) rfl H.f_disable (x_disable_n L) (x_disable_b L) (x_disable_x L) (x_disable_f L)) (fun e he => by simp at he; subst he; exact .inl rfl) ?_
  rw [show deafBehind 0 #[mk .disable] = 1 from rfl]
  refine mgo_seg (by simp) 10 ?_
  walk_nrm
  u_c stepG_region_end (onWay_rely hgr) hF
  u_c stepG_block (onWay_rely hgr) hF
  u_c stepG_loop (onWay_rely hgr) hF
  refine Goes.stop (fun w₂ h₂ => ?_)
  exact wait_round H hgr hno hJ hT B hB _ w₂ (by simp) (by simp) (onWay_rely hgr hF h₂)
end
end Go.Proofs.Ytkodpijedinanaa.Sim

namespace Go.Proofs.Ytkodpijedinanaa.Sim
open Go Go.Conc
set_option linter.unusedVariables false
set_option linter.unusedSimpArgs false

/-- The frame beneath a worker's. -/
def bornF (P : Program) : Frame := { (default : Frame) with fn := P.funcs.size, defers := [], mode := .panicking [goexitEntry] }
theorem born_step {P : Program} {main : Bool} {f : FuncId} {fn : Func} {c : Code} {caps : Array Value} (hf : P.funcs[f]? = some fn) (hname : (fn.name == "runtime.NumGoroutine") = false) (hb : fn.body = some c) (W : World) :
    stepG P main (born P { target := .fn (.func f) caps, args := #[] }) W = .go (G ((baseD f).at { tmps := caps ++ Array.replicate (fn.ntmps - caps.size) undef, defers := [] } [.code c]) [bornF P]) W #[] := by
  rw [show (G ((baseD f).at { tmps := caps ++ Array.replicate (fn.ntmps - caps.size) undef, defers := [] } [.code c]) [bornF P]) = G (Frame.enter P f caps .deferred) [bornF P] from by rw [enter_atD caps hf hb]]
  have h1 : ¬ fn.name = "runtime.NumGoroutine" := by simpa using hname
  have h2 : ¬ fn.body = none := by rw [hb]; simp
  have hr : (invoke (.fn (.func f) caps) #[]).run P W = .ok (.enter f caps) W := by simp [invoke, callFunc, hf, h1, h2]
  have he : (invoke (.fn (.func f) caps) #[]).events P W #[] = #[] := by simp [invoke, callFunc, hf, h1, h2]
  simp [stepG, born, unwind, callDeferred, hr, he, GStep.after, seen_none, G, bornF]
/-- Its way out. -/
theorem quits_out {P : Program} {f : FuncId} {fn : Func} (hf : P.funcs[f]? = some fn) (hres : fn.results = #[]) (T : Array Value) (todo : List Item) : QuitsD P 2 0 (G { (baseD f).at ⟨T, []⟩ todo with mode := .returning } [bornF P]) := by
  refine QuitsD.ctl (g' := G (bornF P) []) rfl (fun w => ?_) ?_
  · have hr := results_none hres T P w
    have he := events_results_none (P := P) (w := w) hres T #[]
    simp [stepG, G, unwind, doReturn, Frame.at, baseD, hf, hr, he, seen_none, GStep.after, bornF, goexitEntry]
  refine QuitsD.ctl (g' := { G (bornF P) [] with status := .finished }) rfl (fun w => ?_) ⟨rfl, rfl⟩
  have : P.funcs[P.funcs.size]? = none := by simp
  simp [stepG, G, unwind, bornF, Frame.catches, this, goexitEntry]
  rfl
theorem sl_app {c : Array Value} {n i : Nat} {D : List Deferred} {v : Value} (h : c[i]? = some v) : Sl ⟨c ++ Array.replicate n undef, D⟩ i v := by
  show (c ++ _)[i]? = some v
  rw [Array.getElem?_append_left (Array.getElem?_eq_some_iff.1 h).1]
  exact h
theorem sl_five (a b c d e : Value) : (#[a, b, c, d, e] : Array Value)[0]? = some a ∧ (#[a, b, c, d, e] : Array Value)[1]? = some b ∧ (#[a, b, c, d, e] : Array Value)[2]? = some c ∧ (#[a, b, c, d, e] : Array Value)[3]? = some d ∧ (#[a, b, c, d, e] : Array Value)[4]? = some e := ⟨rfl, rfl, rfl, rfl, rfl⟩
section
variable {P : Program} {main : Bool} {Sh : Shd} {Ju : Blk → Goroutine → World → Prop} {RB : List Frame} {B : Frame} {Own : Blk} {A : Act} {k : List Item} {Z : World → Prop}
theorem rt_defer (hJ : Jud P main Sh Ju) (hz : Stable Own Sh Z) (hB : B.kind ≠ .early) {ops : Array Oper} {i : Nat} {l : List Nat} {o : Oper} (ho : ops[i]? = some o) (hg : o.guard = none) {f : FuncId} {xs : Array Operand} {ats : Array TypeId} (hop : o.op = .defer { callee := .value (.func f), args := xs, argTypes := ats }) (hdst : o.dst = none) {args : Array Value} (hargs : xs.map A.eval = args)
    (h : Rt Ju RB B (.inRegion ops l :: k) Own ⟨A.tmps, dcall f args :: A.defers⟩ Z) : Rt Ju RB B (.inRegion ops (i :: l) :: k) Own A Z := fun W z =>
  hJ _ _ _ (Goes'.ctl (g' := G (B.at ⟨A.tmps, dcall f args :: A.defers⟩ (.inRegion ops l :: k)) RB) rfl rfl (fun W1 _ => by rw [stepG_defer ho (by simp [Region.wanted, hg]) hB hop, hdst, hargs]; rfl) fun W1 hr => .stop (h W1 (hz W W1 hr z)))
theorem rt_ret (hJ : Jud P main Sh Ju) (hz : Stable Own Sh Z) (h : ∀ W, Z W → Ju Own (G { B.at A (.code .ret :: k) with mode := .returning } RB) W) : Rt Ju RB B (.code .ret :: k) Own A Z := fun W z =>
  hJ _ _ _ (Goes'.ctl rfl rfl (fun W1 _ => stepG_ret') fun W1 hr => .stop (h W1 (hz W W1 hr z)))
theorem rt_end (hJ : Jud P main Sh Ju) (hz : Stable Own Sh Z) (h : ∀ W, Z W → Ju Own (G { B.at A [] with mode := .returning } RB) W) : Rt Ju RB B [] Own A Z := fun W z =>
  hJ _ _ _ (Goes'.ctl rfl rfl (fun W1 _ => stepG_end) fun W1 hr => .stop (h W1 (hz W W1 hr z)))
end
theorem repl_no {n j : Nat} (h : (Array.replicate n false).getD j false = true) : False := by
  rw [Array.getD_eq_getD_getElem?, Array.getElem?_replicate] at h
  split at h <;> simp at h
def outL (E : WEnv) : List Ent := if 2 * E.i + 1 = E.n then E.ls (2 * E.i) else mergeL (E.ls (2 * E.i)) (E.ls (2 * E.i + 1))
def jobE (E : WEnv) (Sc : Shd) : Job := { C := E.C, i := E.i, len := E.m, cel := Sc.cel, pr := fun v W own => REnt (fun b => own b ∨ Sc b) W v (outL E) ∧ W.cell? ⟨E.C2, E.i, none⟩ = some (.int .i64 0) }
section
variable {E : WEnv} {Sc : Shd}
def doneD (E : WEnv) : List Deferred := [dcall 22 #[.pointer (some ⟨E.Wg, 0, none⟩)]]
set_option maxRecDepth 100000 in
/-- On its way out. -/
theorem many_out (hE : WEOk E Sc) {O : Blk} {A : Act} {W : World} {todo : List Item} {V : Value} (hw : WB E Sc (doneD E) A W) (hv : W.cell? ⟨E.C, E.i, none⟩ = some V) (hm : REnt (fun b => O b ∨ Sc b) W V (outL E)) :
    Goes' Try.prog false Sc (AtDone Try.prog E.Wg (jobE E Sc) Sc) O (G { (baseD 21).at A todo with mode := .returning } [bornF Try.prog]) W := by
  have hst := fun (W1 : World) => stepG_unwind_enter (main := false) (b := baseD 21) (a := A) (todo := todo) (cs := [bornF Try.prog]) (w := W1) (ds := []) hw.df Try.func22 (by kernel_rfl) rfl
  refine Goes'.ctl rfl rfl (fun W1 _ => hst W1) fun W1 hr => .stop ?_
  have hw1 := hw.rely hE hr
  have hv1 := hr.cell?' (a := ⟨E.C, E.i, none⟩) (.inr (.inr ⟨hE.c1, rfl⟩)) hv
  have hm1 := hm.rely hr fun b hb => hb
  refine ⟨rfl, ⟨fun _ _ => Iff.rfl, hE.c1, hE.grp, hE.im, hw1.st.pay⟩, V, 23, .r0 ?_, fun W2 hr2 => ⟨hm1.rely hr2 fun b hb => hb, ?_⟩⟩
  · have hA := @ConcN.Gen.doneN payW wgLink Try.prog wgLib NoL NoL E.Wg E.C E.m 0 (E.i + 1) V { (baseD 21).at ⟨A.tmps, []⟩ todo with mode := .returning } [bornF Try.prog] 2 rfl (quits_out Try.func21 rfl _ _) W1 ⟨hw1.st.wg, by rw [Nat.add_sub_cancel]; exact hv1⟩
    exact hA
  · exact hr2.cell?' (a := ⟨E.C2, E.i, none⟩) (.inr (.inr ⟨⟨hE.c2, fun e => hE.ne e.1.symm⟩, rfl⟩)) hw1.st.ok
set_option maxRecDepth 100000 in
set_option maxHeartbeats 4000000 in
/-- From its birth. -/
theorem many_run (hE : WEOk E Sc) (hsep : ∀ c, Sc c → c ≠ E.C ∧ c ≠ E.C2) {W : World} (hW : WSt0 E Sc W) :
    Goes' Try.prog false Sc (AtDone Try.prog E.Wg (jobE E Sc) Sc) (fun _ => False) (born Try.prog { target := .fn (.func 21) #[.pointer (some ⟨E.Wg, 0, none⟩), .pointer (some ⟨E.bi, 0, none⟩), .pointer (some ⟨E.bl, 0, none⟩), .pointer (some ⟨E.bn, 0, none⟩), .pointer (some ⟨E.bc, 0, none⟩)], args := #[] }) W := by
  refine Goes'.ctl rfl rfl (fun W1 _ => born_step Try.func21 (by kernel_rfl) rfl W1) fun W1 hr1 => ?_
  have hW1 := hW.rely hE hr1
  clear hW hr1
  obtain ⟨A0, hA0⟩ : ∃ A : Act, A = { tmps := #[.pointer (some ⟨E.Wg, 0, none⟩), .pointer (some ⟨E.bi, 0, none⟩), .pointer (some ⟨E.bl, 0, none⟩), .pointer (some ⟨E.bn, 0, none⟩), .pointer (some ⟨E.bc, 0, none⟩)] ++ Array.replicate (Try.f21.ntmps - 5) undef, defers := [] } := ⟨_, rfl⟩
  have hnt : Try.f21.ntmps = 40 := by kernel_rfl
  rw [hnt] at hA0
  have s0 : A0.eval (.tmp 0) = .pointer (some ⟨E.Wg, 0, none⟩) := by subst hA0; exact (sl_app (sl_five _ _ _ _ _).1).eval
  have hw0 : ∀ W, WSt0 E Sc W → WB E Sc [] A0 W := fun W h => by subst hA0; exact ⟨h, by simp, rfl, sl_app (sl_five _ _ _ _ _).2.1, sl_app (sl_five _ _ _ _ _).2.2.1, sl_app (sl_five _ _ _ _ _).2.2.2.1, sl_app (sl_five _ _ _ _ _).2.2.2.2⟩
  have hc : cMany = .seq (hd cMany) (.seq (.seq (hd (hd (tl cMany))) (.cond (.tmp 10) (.seq (.region 2 ops2 true) .ret) .skip)) (.region 3 ops3 true)) := by kernel_rfl
  have hr0 : hd cMany = .region 0 (regOps (hd cMany)) false := by kernel_rfl
  have hr1 : hd (hd (tl cMany)) = .region 1 (regOps (hd (hd (tl cMany)))) false := by kernel_rfl
  have hB : (baseD 21).kind ≠ .early := by simp [baseD]
  have hJ := jud_goes Try.prog false Sc (AtDone Try.prog E.Wg (jobE E Sc) Sc)
  have hmix : Try.prog.follows .mixedOrders = true := by kernel_rfl
  have hi2 := hE.i2
  have hn2 := hE.n2
  have hz0 : Stable (fun _ => False) Sc fun W => WSt0 E Sc W := fun W W1 hr z => z.rely hE hr
  refine (show Rt (Goes' Try.prog false Sc (AtDone Try.prog E.Wg (jobE E Sc) Sc)) [bornF Try.prog] (baseD 21) [.code cMany] (fun _ => False) A0 (fun W => WSt0 E Sc W) from ?_) W1 (by exact hW1) |> fun h => by rw [hnt]; subst hA0; exact h
  rw [hc]
  refine rt_seq hJ hz0 ?_
  rw [hr0]
  refine rt_region hJ hz0 ?_
  rw [show List.range (regOps (hd cMany)).size = [0] from by kernel_rfl]
  -- the deferred call
  obtain ⟨o, ho, hop, hg, hdst⟩ : ∃ o, (regOps (hd cMany))[0]? = some o ∧ o.op = .defer { callee := .value (.func 22), args := #[.tmp 0], argTypes := #[65] } ∧ o.guard = none ∧ o.dst = none := ⟨((regOps (hd cMany))[0]?).getD default, by kernel_rfl, by kernel_rfl, by kernel_rfl, by kernel_rfl⟩
  refine rt_defer hJ hz0 hB ho hg hop hdst (args := #[.pointer (some ⟨E.Wg, 0, none⟩)]) (by simp [s0]) ?_
  have hdf0 : A0.defers = [] := by rw [hA0]
  rw [hdf0]
  obtain ⟨A1, hA1⟩ : ∃ A : Act, A = ⟨A0.tmps, [dcall 22 #[.pointer (some ⟨E.Wg, 0, none⟩)]]⟩ := ⟨_, rfl⟩
  rw [← hA1]
  have hw1 : ∀ W, WSt0 E Sc W → WB E Sc (doneD E) A1 W := fun W h => by subst hA1; exact { hw0 W h with df := rfl }
  clear hA1 hw0 s0 hA0 hdf0 ho hop hg hdst
  refine rt_region_end hJ hz0 ?_
  refine rt_seq hJ hz0 (rt_seq hJ hz0 ?_)
  rw [hr1]
  refine rt_region hJ hz0 ?_
  rw [show List.range (regOps (hd (hd (tl cMany)))).size = [0, 1, 2, 3, 4, 5] from by kernel_rfl]
  -- how many there are
  obtain ⟨o, ho, hop, hg, hdst⟩ : ∃ o, (regOps (hd (hd (tl cMany))))[0]? = some o ∧ o.op = .load 3 (.tmp 1) ∧ o.guard = none ∧ o.dst = some 5 := ⟨((regOps (hd (hd (tl cMany))))[0]?).getD default, by kernel_rfl, by kernel_rfl, by kernel_rfl, by kernel_rfl⟩
  refine rt_val hJ hz0 hB ho hg (fun W z => load3 hop (hw1 W z).t1.eval z.ci) (fun e he => by simp at he; subst he; exact .cell _ _ (.inr (.inl ⟨hE.bi, rfl⟩))) ?_
  rw [hdst]
  have hw2 := fun W h => (hw1 W h).put (s := 5) (by omega) (.int .i64 E.i)
  have q5 : ∀ W, WSt0 E Sc W → Sl (A1.put (some 5) (.int .i64 E.i)) 5 (.int .i64 E.i) := fun W h => Sl.same (by rw [(hw1 W h).sz]; omega)
  generalize A1.put (some 5) (.int .i64 E.i) = A2 at *
  obtain ⟨o, ho, hop, hg, hdst⟩ : ∃ o, (regOps (hd (hd (tl cMany))))[1]? = some o ∧ o.op = .binOp .mul 3 (.const (.int .i64 2)) (.tmp 5) 3 ∧ o.guard = none ∧ o.dst = some 6 := ⟨((regOps (hd (hd (tl cMany))))[1]?).getD default, by kernel_rfl, by kernel_rfl, by kernel_rfl, by kernel_rfl⟩
  refine rt_val hJ hz0 hB ho hg (v := .int .i64 ((2 * E.i : Nat) : Int)) (fun W z => by have q := mulI (w := W) hop rfl (q5 W z).eval (by omega); exact q) (fun e he => by simp at he) ?_
  rw [hdst]
  have hw3 := fun W h => (hw2 W h).put (s := 6) (by omega) (.int .i64 ((2 * E.i : Nat) : Int))
  have q6 : ∀ W, WSt0 E Sc W → Sl (A2.put (some 6) (.int .i64 ((2 * E.i : Nat) : Int))) 6 (.int .i64 ((2 * E.i : Nat) : Int)) := fun W h => Sl.same (by rw [(hw2 W h).sz]; omega)
  generalize A2.put (some 6) (.int .i64 ((2 * E.i : Nat) : Int)) = A3 at *
  obtain ⟨o, ho, hop, hg, hdst⟩ : ∃ o, (regOps (hd (hd (tl cMany))))[2]? = some o ∧ o.op = .binOp .add 3 (.tmp 6) (.const (.int .i64 1)) 3 ∧ o.guard = none ∧ o.dst = some 7 := ⟨((regOps (hd (hd (tl cMany))))[2]?).getD default, by kernel_rfl, by kernel_rfl, by kernel_rfl, by kernel_rfl⟩
  refine rt_val hJ hz0 hB ho hg (v := .int .i64 ((2 * E.i + 1 : Nat) : Int)) (fun W z => by have q := addI (w := W) hop (q6 W z).eval rfl (by omega); exact q) (fun e he => by simp at he) ?_
  rw [hdst]
  have hw4 := fun W h => (hw3 W h).put (s := 7) (by omega) (.int .i64 ((2 * E.i + 1 : Nat) : Int))
  have q7 : ∀ W, WSt0 E Sc W → Sl (A3.put (some 7) (.int .i64 ((2 * E.i + 1 : Nat) : Int))) 7 (.int .i64 ((2 * E.i + 1 : Nat) : Int)) := fun W h => Sl.same (by rw [(hw3 W h).sz]; omega)
  generalize A3.put (some 7) (.int .i64 ((2 * E.i + 1 : Nat) : Int)) = A4 at *
  obtain ⟨o, ho, hop, hg, hdst⟩ : ∃ o, (regOps (hd (hd (tl cMany))))[3]? = some o ∧ o.op = .load 34 (.tmp 2) ∧ o.guard = none ∧ o.dst = some 8 := ⟨((regOps (hd (hd (tl cMany))))[3]?).getD default, by kernel_rfl, by kernel_rfl, by kernel_rfl, by kernel_rfl⟩
  refine rt_val hJ hz0 hB ho hg (fun W z => loadLL hop (hw4 W z).t2.eval z.cl) (fun e he => by simp at he; subst he; exact .cell _ _ (.inr (.inl ⟨hE.bl, rfl⟩))) ?_
  rw [hdst]
  have hw5 := fun W h => (hw4 W h).put (s := 8) (by omega) (.slice (some ⟨E.rl, 0, none⟩) E.n E.cap)
  have q8 : ∀ W, WSt0 E Sc W → Sl (A4.put (some 8) (.slice (some ⟨E.rl, 0, none⟩) E.n E.cap)) 8 (.slice (some ⟨E.rl, 0, none⟩) E.n E.cap) := fun W h => Sl.same (by rw [(hw4 W h).sz]; omega)
  have q7b := fun W h => (q7 W h).ne (d := 8) (u := .slice (some ⟨E.rl, 0, none⟩) E.n E.cap) (by omega)
  generalize A4.put (some 8) (.slice (some ⟨E.rl, 0, none⟩) E.n E.cap) = A5 at *
  obtain ⟨o, ho, hop, hg, hdst⟩ : ∃ o, (regOps (hd (hd (tl cMany))))[4]? = some o ∧ o.op = .call { callee := .builtin .len, args := #[.tmp 8], argTypes := #[34] } ∧ o.guard = none ∧ o.dst = some 9 := ⟨((regOps (hd (hd (tl cMany))))[4]?).getD default, by kernel_rfl, by kernel_rfl, by kernel_rfl, by kernel_rfl⟩
  refine rt_val hJ hz0 hB ho hg (fun W z => lenLL hop (q8 W z).eval) (fun e he => by simp at he) ?_
  rw [hdst]
  have hw6 := fun W h => (hw5 W h).put (s := 9) (by omega) (.int .i64 E.n)
  have q9 : ∀ W, WSt0 E Sc W → Sl (A5.put (some 9) (.int .i64 E.n)) 9 (.int .i64 E.n) := fun W h => Sl.same (by rw [(hw5 W h).sz]; omega)
  have q7c := fun W h => (q7b W h).ne (d := 9) (u := .int .i64 E.n) (by omega)
  generalize A5.put (some 9) (.int .i64 E.n) = A6 at *
  obtain ⟨o, ho, hop, hg, hdst⟩ : ∃ o, (regOps (hd (hd (tl cMany))))[5]? = some o ∧ o.op = .binOp .eql 3 (.tmp 7) (.tmp 9) 3 ∧ o.guard = none ∧ o.dst = some 10 := ⟨((regOps (hd (hd (tl cMany))))[5]?).getD default, by kernel_rfl, by kernel_rfl, by kernel_rfl, by kernel_rfl⟩
  refine rt_val hJ hz0 hB ho hg (fun W z => eqI hop (q7c W z).eval (q9 W z).eval) (fun e he => by simp at he) ?_
  rw [hdst]
  have hw7 := fun W h => (hw6 W h).put (s := 10) (by omega) (.bool (((2 * E.i + 1 : Nat) : Int) == (E.n : Int)))
  have q10 : ∀ W, WSt0 E Sc W → Sl (A6.put (some 10) (.bool (((2 * E.i + 1 : Nat) : Int) == (E.n : Int)))) 10 (.bool (((2 * E.i + 1 : Nat) : Int) == (E.n : Int))) := fun W h => Sl.same (by rw [(hw6 W h).sz]; omega)
  generalize A6.put (some 10) (.bool (((2 * E.i + 1 : Nat) : Int) == (E.n : Int))) = A7 at *
  clear hw1 hw2 hw3 hw4 hw5 hw6 q5 q6 q7 q8 q9 q7b q7c ho hop hg hdst
  refine rt_region_end hJ hz0 ?_
  refine fun W z => rt_cond hJ hz0 (q10 W z).eval (fun W2 z2 => ?_) W z
  clear z W
  by_cases hodd : 2 * E.i + 1 = E.n
  · have hb : ((((2 * E.i + 1 : Nat) : Int) == (E.n : Int)) : Bool) = true := by simp; omega
    rw [hb]
    refine rt_seq hJ hz0 ?_ W2 z2
    refine rt_draw hJ hmix hz0 (I := fun L O A W => ∃ V, R2 E Sc (doneD E) L V O A W) (fun L i l h1 h2 h3 nx => R2.step hE hJ hB hsep L i l h1 h2 h3 nx) (fun L hL O A W ⟨V, h⟩ => ?_) (fun L O A W ⟨V, h⟩ => h.lsz.trans (by kernel_rfl)) (fun W d z => ⟨undef, ?_⟩)
    · have hall := listed_all (h.lsz.trans (by kernel_rfl)) (fun j hj d hd => by
        have D : ((List.range ops2.size).all fun j => (depsOf ops2 j).all fun d => decide (d < j)) = true := by kernel_rfl
        have := List.all_eq_true.1 (List.all_eq_true.1 D j (List.mem_range.2 hj)) d hd
        simpa using this) hL
      refine rt_region_end (Own := O) (Z := fun W => R2 E Sc (doneD E) L V O A W) hJ (fun W W1 hr z => z.rely hE hr) (rt_ret (Z := fun W => R2 E Sc (doneD E) L V O A W) hJ (fun W W1 hr z => z.rely hE hr) fun W z => many_out hE z.wb (z.done (hall 8 (by rw [show ops2.size = 9 from by kernel_rfl]; omega))) ?_) W h
      have : outL E = E.ls (2 * E.i) := by simp [outL, hodd]
      rw [this]
      exact (z.wb.st.ent _ hi2).mono fun b hb => .inr hb
    · exact ⟨(hw7 W z).rely hE (rely_at (fun _ => False) Sc W d), by simp; kernel_rfl, fun c h => h.elim, fun j _ _ hl => (repl_no hl).elim, fun hl => (repl_no hl).elim⟩
  · have hb : ((((2 * E.i + 1 : Nat) : Int) == (E.n : Int)) : Bool) = false := by simp; omega
    rw [hb]
    refine rt_skip hJ hz0 ?_ W2 z2
    refine rt_draw hJ hmix hz0 (I := fun L O A W => ∃ V, R3 E Sc (doneD E) L V O A W) (fun L i l h1 h2 h3 nx => R3.step hE hJ hB hsep L i l h1 h2 h3 (by omega) nx) (fun L hL O A W ⟨V, h⟩ => ?_) (fun L O A W ⟨V, h⟩ => h.lsz.trans (by kernel_rfl)) (fun W d z => ⟨undef, ?_⟩)
    · have hall := listed_all (h.lsz.trans (by kernel_rfl)) (fun j hj d hd => by
        have D : ((List.range ops3.size).all fun j => (depsOf ops3 j).all fun d => decide (d < j)) = true := by kernel_rfl
        have := List.all_eq_true.1 (List.all_eq_true.1 D j (List.mem_range.2 hj)) d hd
        simpa using this) hL
      refine rt_region_end (Own := O) (Z := fun W => R3 E Sc (doneD E) L V O A W) hJ (fun W W1 hr z => z.rely hE hr) (rt_end (Z := fun W => R3 E Sc (doneD E) L V O A W) hJ (fun W W1 hr z => z.rely hE hr) fun W z => many_out hE z.wb (z.done (hall 20 (by rw [show ops3.size = 23 from by kernel_rfl]; omega))) ?_) W h
      have : outL E = mergeL (E.ls (2 * E.i)) (E.ls (2 * E.i + 1)) := by simp [outL, hodd]
      rw [this]
      exact z.mrg (hall 15 (by rw [show ops3.size = 23 from by kernel_rfl]; omega))
    · exact ⟨(hw7 W z).rely hE (rely_at (fun _ => False) Sc W d), by simp; kernel_rfl, fun c h => h.elim, fun j _ _ _ hl => (repl_no hl).elim, fun hl => (repl_no hl).elim, fun hl => (repl_no hl).elim, fun hl => (repl_no hl).elim, fun hl => (repl_no hl).elim, fun hl => (repl_no hl).elim, fun hl => (repl_no hl).elim⟩
end
end Go.Proofs.Ytkodpijedinanaa.Sim

namespace Go.Proofs.Ytkodpijedinanaa.Sim
open Go Go.Conc Go.ConcN Go.RowKit Go.Conc.Lib Go.ConcR.Gen Go.ConcN.Gen
open Go.ConcR (KK wgBlock WgAt stA smA rd wr mk Payload Aside2 DC0)
set_option linter.unusedVariables false
set_option linter.unusedSimpArgs false

section
variable {P : Program} {L : WgLink} {W0 : World} {lo : Nat} {Post : Value → World → Prop} {n : Nat} {jobs : Nat → Option Job} {Wg B : Nat} {Sh : Shd} {Own : Blk} {W : World}
  {b₀ : Frame} {a₀ : Act} {ops₀ : Array Oper} {i₀ : Nat} {rest₀ : List Nat} {k₀ : List Item} {cs : List Frame}
set_option maxRecDepth 100000 in
set_option maxHeartbeats 16000000 in
theorem add_walk (H : WgLib P L) (hgr : Sh.grp Wg) (hno : ¬ Own Wg ∧ ¬ Sh Wg ∧ ∀ o, ¬ Sh.cel Wg o) (hB : B + 1 < 2147483648)
    (hT : ∀ w, OnWay Own Sh Wg W w → MGo P W0 lo Post n jobs (.sp 0 0) Wg (B + 1) 0 Sh Own (G (b₀.at (a₀.put ((ops₀[i₀]?).bind (·.dst)) (.tuple #[])) (.inRegion ops₀ rest₀ :: k₀)) cs) w)
    (hF : OnWay Own Sh Wg W W) :
    MGo P W0 lo Post n jobs .kd Wg B 0 Sh Own (G ((base L.add).at ⟨#[.pointer (some ⟨Wg, 0, none⟩), .int .i64 1, undef, undef, undef, undef, undef, undef, undef, undef, undef, undef, undef, undef, undef, undef, undef, undef, undef, undef, undef, undef, undef, undef, undef, undef, undef, undef, undef, undef, undef, undef, undef, undef, undef, undef, undef, undef, undef, undef, undef, undef, undef, undef, undef, undef, undef, undef, undef, undef, undef, undef, undef, undef, undef, undef, undef, undef, undef, undef, undef, undef, undef, undef, undef, undef, undef, undef, undef, undef, undef, undef, undef, undef, undef, undef, undef, undef, undef, undef, undef, undef, undef, undef, undef, undef, undef, undef, undef, undef, undef, undef, undef, undef, undef, undef, undef, undef, undef, undef, undef, undef, undef, undef, undef, undef, undef, undef, undef, undef, undef, undef, undef, undef, undef, undef, undef], []⟩ [.code (body_add L)]) (b₀.at a₀ (.inRegion ops₀ (i₀ :: rest₀) :: k₀) :: cs)) W := by
  lib_facts
  simp only [body_add, addFn, Option.getD_some]
  refine mgo_seg (by simp) 20 ?_
  u_c stepG_seq (onWay_rely hgr) hF
  u_cond true (onWay_rely hgr) hF
  u_c stepG_seq (onWay_rely hgr) hF
  u_c stepG_seq (onWay_rely hgr) hF
  u_reg (onWay_rely hgr) hF
  u_op (onWay_rely hgr) hF
  u_op (onWay_rely hgr) hF
  u_c stepG_region_end (onWay_rely hgr) hF
  u_cond false (onWay_rely hgr) hF
  u_c stepG_skip (onWay_rely hgr) hF
  u_c stepG_seq (onWay_rely hgr) hF
  u_reg (onWay_rely hgr) hF
  refine Goes.stop (fun w₁ h₁ => ?_)
  replace hF := onWay_rely hgr hF h₁
  clear h₁
  refine .book (es := #[mk .disable]) rfl (by simp) (by simp) (fun W1 _ => stepG_mark0 .disable (by simp) rfl rfl (by k_ne) rfl H.f_disable (x_disable_n L) (x_disable_b L) (x_disable_x L) (x_disable_f L)) (fun e he => by simp at he; subst he; exact .inl rfl) ?_
  rw [show deafBehind 0 #[mk .disable] = 1 from rfl]
  refine mgo_seg (by simp) 100 ?_
  walk_nrm
  u_c stepG_region_end (onWay_rely hgr) hF
  u_reg (onWay_rely hgr) hF
  u_defer (onWay_rely hgr) hF
  u_c stepG_region_end (onWay_rely hgr) hF
  u_c stepG_seq (onWay_rely hgr) hF
  u_reg (onWay_rely hgr) hF
  u_op (onWay_rely hgr) hF
  u_c stepG_region_end (onWay_rely hgr) hF
  u_c stepG_seq (onWay_rely hgr) hF
  u_c stepG_seq (onWay_rely hgr) hF
  u_reg (onWay_rely hgr) hF
  u_bub (onWay_rely hgr) hF
  u_c stepG_region_end (onWay_rely hgr) hF
  u_cond false (onWay_rely hgr) hF
  u_c stepG_skip (onWay_rely hgr) hF
  u_c stepG_seq (onWay_rely hgr) hF
  u_reg (onWay_rely hgr) hF
  u_op (onWay_rely hgr) hF
  u_op (onWay_rely hgr) hF
  u_op (onWay_rely hgr) hF
  u_op (onWay_rely hgr) hF
  u_op (onWay_rely hgr) hF
  u_op (onWay_rely hgr) hF
  u_call H.f_uAdd (nm_uAdd L) uAddFn (onWay_rely hgr) hF
  u_c stepG_seq (onWay_rely hgr) hF
  u_reg (onWay_rely hgr) hF
  u_op (onWay_rely hgr) hF
  u_c stepG_region_end (onWay_rely hgr) hF
  u_c stepG_seq (onWay_rely hgr) hF
  u_reg (onWay_rely hgr) hF
  u_op (onWay_rely hgr) hF
  u_op (onWay_rely hgr) hF
  u_op (onWay_rely hgr) hF
  u_op (onWay_rely hgr) hF
  refine Goes.stop (fun w₂ h₁ => ?_)
  replace hF := onWay_rely hgr hF h₁
  clear h₁
  refine .add' rfl hB (fun w₄ v h₄ hv hw => ?_)
  replace hF := onWay_rely hgr hF h₄
  clear h₄
  rcases Nat.eq_zero_or_pos v with rfl | hvp
  · replace hw : WgAt tyWg Wg w₄ 0 0 := by simpa using hw
    have z : (((0 : Nat) : Int) + 1) * KK = KK := by simp
    rw [z]
    have e0 : IntKind.u64.wrap (0 + 4294967296) = KK := by decide
    refine ⟨_, (stepG_add_atomic rfl rfl (by k_ne) rfl H.f_addU64 (x_addU64_n L) (x_addU64_b L) (x_addU64_x L) .u64 (x_addU64_f L) rfl rfl hw.cellSt (hw.thaw 0)).trans (by rw [e0]; rfl), ?_⟩
    replace hF := onWay_set hno (a := stA Wg) rfl hF hw (hw.setSt KK)
    clear hw
    simp only [KK] at hF ⊢
    refine mgo_seg (by simp) 200 ?_
    walk_nrm
    u_op (onWay_rely hgr) hF
    u_c stepG_region_end (onWay_rely hgr) hF
    u_c stepG_ret' (onWay_rely hgr) hF
    u_leave1 H.f_uAdd (onWay_rely hgr) hF
    u_op (onWay_rely hgr) hF
    u_c stepG_region_end (onWay_rely hgr) hF
    u_c stepG_seq (onWay_rely hgr) hF
    u_c stepG_seq (onWay_rely hgr) hF
    u_reg (onWay_rely hgr) hF
    u_op (onWay_rely hgr) hF
    u_op (onWay_rely hgr) hF
    u_op (onWay_rely hgr) hF
    u_op (onWay_rely hgr) hF
    u_skip (onWay_rely hgr) hF
    u_skip (onWay_rely hgr) hF
    u_op (onWay_rely hgr) hF
    u_c stepG_region_end (onWay_rely hgr) hF
    u_cond false (onWay_rely hgr) hF
    u_c stepG_skip (onWay_rely hgr) hF
    u_c stepG_seq (onWay_rely hgr) hF
    u_reg (onWay_rely hgr) hF
    u_op (onWay_rely hgr) hF
    u_op (onWay_rely hgr) hF
    u_op (onWay_rely hgr) hF
    u_op (onWay_rely hgr) hF
    u_c stepG_region_end (onWay_rely hgr) hF
    u_c stepG_seq (onWay_rely hgr) hF
    u_reg (onWay_rely hgr) hF
    u_op (onWay_rely hgr) hF
    u_op (onWay_rely hgr) hF
    u_op (onWay_rely hgr) hF
    u_op (onWay_rely hgr) hF
    u_c stepG_region_end (onWay_rely hgr) hF
    u_c stepG_seq (onWay_rely hgr) hF
    u_c stepG_seq (onWay_rely hgr) hF
    u_reg (onWay_rely hgr) hF
    u_op (onWay_rely hgr) hF
    u_op (onWay_rely hgr) hF
    u_op (onWay_rely hgr) hF
    u_op (onWay_rely hgr) hF
    u_op (onWay_rely hgr) hF
    u_op (onWay_rely hgr) hF
    u_op (onWay_rely hgr) hF
    u_op (onWay_rely hgr) hF
    u_op (onWay_rely hgr) hF
    u_op (onWay_rely hgr) hF
    u_c stepG_region_end (onWay_rely hgr) hF
    u_cond true (onWay_rely hgr) hF
    u_reg (onWay_rely hgr) hF
    u_op (onWay_rely hgr) hF
    u_op (onWay_rely hgr) hF
    u_op (onWay_rely hgr) hF
    u_conv H.underlying_tPU32 H.room_tU32 (WgLive.cell1 hF.2).choose_spec (onWay_rely hgr) hF
    refine Goes.stop (fun w₅ h₁ => ?_)
    replace hF := onWay_rely hgr hF h₁
    clear h₁
    refine .book (es := #[mk (.read ⟨Wg, 1, none⟩)]) rfl (by simp) (by simp) (fun W1 _ => stepG_markAt .read (by simp) rfl rfl (by k_ne) rfl H.f_raceRead (x_raceRead_n L) (x_raceRead_b L) (x_raceRead_x L) (x_raceRead_f L) (ad := ⟨Wg, 1, none⟩) (by simp [Act.eval])) (fun e he => by simp at he; subst he; exact .inr (.inr ⟨_, rfl, .inl rfl⟩)) ?_
    rw [show deafBehind 1 #[mk (.read ⟨Wg, 1, none⟩)] = 1 from rfl]
    refine mgo_seg (by simp) 200 ?_
    walk_nrm
    u_c stepG_region_end (onWay_rely hgr) hF
    u_c stepG_seq (onWay_rely hgr) hF
    u_c stepG_seq (onWay_rely hgr) hF
    u_reg (onWay_rely hgr) hF
    u_op (onWay_rely hgr) hF
    u_op (onWay_rely hgr) hF
    u_c stepG_region_end (onWay_rely hgr) hF
    u_cond false (onWay_rely hgr) hF
    u_c stepG_skip (onWay_rely hgr) hF
    u_c stepG_seq (onWay_rely hgr) hF
    u_c stepG_seq (onWay_rely hgr) hF
    u_reg (onWay_rely hgr) hF
    u_op (onWay_rely hgr) hF
    u_op (onWay_rely hgr) hF
    u_op (onWay_rely hgr) hF
    u_skip (onWay_rely hgr) hF
    u_skip (onWay_rely hgr) hF
    u_op (onWay_rely hgr) hF
    u_op (onWay_rely hgr) hF
    u_skip (onWay_rely hgr) hF
    u_skip (onWay_rely hgr) hF
    u_skip (onWay_rely hgr) hF
    u_skip (onWay_rely hgr) hF
    u_op (onWay_rely hgr) hF
    u_c stepG_region_end (onWay_rely hgr) hF
    u_cond false (onWay_rely hgr) hF
    u_c stepG_skip (onWay_rely hgr) hF
    u_c stepG_seq (onWay_rely hgr) hF
    u_c stepG_seq (onWay_rely hgr) hF
    u_reg (onWay_rely hgr) hF
    u_op (onWay_rely hgr) hF
    u_op (onWay_rely hgr) hF
    u_op (onWay_rely hgr) hF
    u_skip (onWay_rely hgr) hF
    u_skip (onWay_rely hgr) hF
    u_op (onWay_rely hgr) hF
    u_c stepG_region_end (onWay_rely hgr) hF
    u_cond true (onWay_rely hgr) hF
    u_c stepG_ret' (onWay_rely hgr) hF
    refine Goes.stop (fun w₃ h₁ => ?_)
    replace hF := onWay_rely hgr hF h₁
    clear h₁
    refine .book (es := #[mk .enable]) rfl (by simp) (by simp) (fun W1 _ => stepG_unwind_entry (v := .tuple #[]) (evs := #[mk .enable]) rfl H.f_enable (x_enable_n L) (x_enable_b L) (x_enable_x L) (x_enable_f L) (by simp [Extern.Race.none_]) (by simp [mk]) (by simp [mk])) (fun e he => by simp at he; subst he; exact .inr (.inl rfl)) ?_
    rw [show deafBehind 1 #[mk .enable] = 0 from rfl]
    refine mgo_seg (by simp) 2 ?_
    u_leave0 H.f_add (onWay_rely hgr) hF
    exact Goes.stop (fun w h => hT _ (onWay_rely hgr hF h))
  · obtain ⟨V, hV⟩ : ∃ V : Int, V = (v : Int) + 1 := ⟨_, rfl⟩
    obtain ⟨S, hS⟩ : ∃ S : Int, S = V * KK := ⟨_, rfl⟩
    have eS : IntKind.u64.wrap ((v : Int) * KK + 4294967296) = S := by rw [IntKind.wrap_u64, hS, hV]; simp only [KK]; omega
    rw [← hV, ← hS]
    have a1 : S / 4294967296 = V := by rw [hS]; simp only [KK]; omega
    have b1 : bits .and .u64 S 2147483648 = 0 := by rw [hS, hV]; have := st_flag (v + 1) 0 (by omega) (by omega); simpa [KK] using this
    have b2 : bits .and .u64 S 2147483647 = 0 := by rw [hS, hV]; have := st_waiters (v + 1) 0 (by omega) (by omega); simpa [KK] using this
    have c1 : IntKind.i32.wrap V = V := by rw [IntKind.wrap_i32]; omega
    have hV1 : 1 < V := by omega
    have hV2 : V < 2147483648 := by omega
    have q1 : (V == 1) = false := by simp; omega
    have q2 : decide (V = 1) = false := decide_eq_false (by omega)
    have q3 : decide (V < 0) = false := decide_eq_false (by omega)
    have q4 : decide (0 < V) = true := decide_eq_true (by omega)
    have q5 : (V == 0) = false := by simp; omega
    have q6 : decide (V = 0) = false := decide_eq_false (by omega)
    refine ⟨_, (stepG_add_atomic rfl rfl (by k_ne) rfl H.f_addU64 (x_addU64_n L) (x_addU64_b L) (x_addU64_x L) .u64 (x_addU64_f L) rfl rfl hw.cellSt (hw.thaw 0)).trans (by rw [eS]; rfl), ?_⟩
    replace hF := onWay_set hno (a := stA Wg) rfl hF hw (hw.setSt S)
    clear hw hS hV eS
    refine mgo_seg (by simp) 200 ?_
    walk_nrm
    u_op (onWay_rely hgr) hF
    u_c stepG_region_end (onWay_rely hgr) hF
    u_c stepG_ret' (onWay_rely hgr) hF
    u_leave1 H.f_uAdd (onWay_rely hgr) hF
    u_op (onWay_rely hgr) hF
    u_c stepG_region_end (onWay_rely hgr) hF
    u_c stepG_seq (onWay_rely hgr) hF
    u_c stepG_seq (onWay_rely hgr) hF
    u_reg (onWay_rely hgr) hF
    u_op (onWay_rely hgr) hF
    u_op (onWay_rely hgr) hF
    u_op (onWay_rely hgr) hF
    u_op (onWay_rely hgr) hF
    u_skip (onWay_rely hgr) hF
    u_skip (onWay_rely hgr) hF
    u_op (onWay_rely hgr) hF
    u_c stepG_region_end (onWay_rely hgr) hF
    u_cnd false (onWay_rely hgr) hF
    u_c stepG_skip (onWay_rely hgr) hF
    u_c stepG_seq (onWay_rely hgr) hF
    u_reg (onWay_rely hgr) hF
    u_op (onWay_rely hgr) hF
    u_op (onWay_rely hgr) hF
    u_op (onWay_rely hgr) hF
    u_op (onWay_rely hgr) hF
    u_c stepG_region_end (onWay_rely hgr) hF
    u_c stepG_seq (onWay_rely hgr) hF
    u_reg (onWay_rely hgr) hF
    u_op (onWay_rely hgr) hF
    u_op (onWay_rely hgr) hF
    u_op (onWay_rely hgr) hF
    u_op (onWay_rely hgr) hF
    u_c stepG_region_end (onWay_rely hgr) hF
    u_c stepG_seq (onWay_rely hgr) hF
    u_c stepG_seq (onWay_rely hgr) hF
    u_reg (onWay_rely hgr) hF
    u_op (onWay_rely hgr) hF
    u_op (onWay_rely hgr) hF
    u_op (onWay_rely hgr) hF
    u_op (onWay_rely hgr) hF
    u_op (onWay_rely hgr) hF
    u_op (onWay_rely hgr) hF
    u_op (onWay_rely hgr) hF
    u_op (onWay_rely hgr) hF
    u_op (onWay_rely hgr) hF
    u_op (onWay_rely hgr) hF
    u_c stepG_region_end (onWay_rely hgr) hF
    u_cnd false (onWay_rely hgr) hF
    u_c stepG_skip (onWay_rely hgr) hF
    u_c stepG_seq (onWay_rely hgr) hF
    u_c stepG_seq (onWay_rely hgr) hF
    u_reg (onWay_rely hgr) hF
    u_op (onWay_rely hgr) hF
    u_op (onWay_rely hgr) hF
    u_c stepG_region_end (onWay_rely hgr) hF
    u_cnd false (onWay_rely hgr) hF
    u_c stepG_skip (onWay_rely hgr) hF
    u_c stepG_seq (onWay_rely hgr) hF
    u_c stepG_seq (onWay_rely hgr) hF
    u_reg (onWay_rely hgr) hF
    u_op (onWay_rely hgr) hF
    u_op (onWay_rely hgr) hF
    u_op (onWay_rely hgr) hF
    u_skip (onWay_rely hgr) hF
    u_skip (onWay_rely hgr) hF
    u_op (onWay_rely hgr) hF
    u_op (onWay_rely hgr) hF
    u_skip (onWay_rely hgr) hF
    u_skip (onWay_rely hgr) hF
    u_skip (onWay_rely hgr) hF
    u_skip (onWay_rely hgr) hF
    u_op (onWay_rely hgr) hF
    u_c stepG_region_end (onWay_rely hgr) hF
    u_cnd false (onWay_rely hgr) hF
    u_c stepG_skip (onWay_rely hgr) hF
    u_c stepG_seq (onWay_rely hgr) hF
    u_c stepG_seq (onWay_rely hgr) hF
    u_reg (onWay_rely hgr) hF
    u_op (onWay_rely hgr) hF
    u_op (onWay_rely hgr) hF
    u_op (onWay_rely hgr) hF
    u_skip (onWay_rely hgr) hF
    u_skip (onWay_rely hgr) hF
    u_op (onWay_rely hgr) hF
    u_c stepG_region_end (onWay_rely hgr) hF
    u_cnd true (onWay_rely hgr) hF
    u_c stepG_ret' (onWay_rely hgr) hF
    refine Goes.stop (fun w₃ h₁ => ?_)
    replace hF := onWay_rely hgr hF h₁
    clear h₁
    refine .book (es := #[mk .enable]) rfl (by simp) (by simp) (fun W1 _ => stepG_unwind_entry (v := .tuple #[]) (evs := #[mk .enable]) rfl H.f_enable (x_enable_n L) (x_enable_b L) (x_enable_x L) (x_enable_f L) (by simp [Extern.Race.none_]) (by simp [mk]) (by simp [mk])) (fun e he => by simp at he; subst he; exact .inr (.inl rfl)) ?_
    rw [show deafBehind 1 #[mk .enable] = 0 from rfl]
    refine mgo_seg (by simp) 2 ?_
    u_leave0 H.f_add (onWay_rely hgr) hF
    exact Goes.stop (fun w h => hT _ (onWay_rely hgr hF h))
end
end Go.Proofs.Ytkodpijedinanaa.Sim

namespace Go.Proofs.Ytkodpijedinanaa.Sim
open Go Go.Conc
set_option linter.unusedVariables false
set_option linter.unusedSimpArgs false

theorem run_go {P : Program} {A : Act} {o : Oper} {t : Tmp} (hop : o.op = .go { callee := .value (.tmp t), args := #[], argTypes := #[] }) {f : FuncId} {caps : Array Value} (hcap : A.eval (.tmp t) = .func (.func f) #[] caps) (W : World) :
    (execOp A.eval o).run P W = .ok (.spawn { target := .fn (.func f) caps, args := #[] }) W ∧ (execOp A.eval o).events P W #[] = #[] := by
  unfold execOp
  rw [hop]
  constructor <;> simp [resolve, Deferred.ofValue, hcap]
theorem mkFn {e : Operand → Value} {o : Oper} {w : World} {f : FuncId} {caps : Array Operand} (hop : o.op = .makeFunc (.func f) #[] caps) : (execOp e o).run Try.prog w = .ok (.value (.func (.func f) #[] (caps.map e))) w ∧ (execOp e o).events Try.prog w #[] = #[] := by
  constructor <;> (unfold execOp; rw [hop]; simp [Instr.makeFunc])
set_option maxRecDepth 100000 in
theorem add_row (Wg : Nat) : (#[.pointer (some ⟨Wg, 0, none⟩), .int .i64 1] : Array Value) ++ Array.replicate 115 undef = #[.pointer (some ⟨Wg, 0, none⟩), .int .i64 1, undef, undef, undef, undef, undef, undef, undef, undef, undef, undef, undef, undef, undef, undef, undef, undef, undef, undef, undef, undef, undef, undef, undef, undef, undef, undef, undef, undef, undef, undef, undef, undef, undef, undef, undef, undef, undef, undef, undef, undef, undef, undef, undef, undef, undef, undef, undef, undef, undef, undef, undef, undef, undef, undef, undef, undef, undef, undef, undef, undef, undef, undef, undef, undef, undef, undef, undef, undef, undef, undef, undef, undef, undef, undef, undef, undef, undef, undef, undef, undef, undef, undef, undef, undef, undef, undef, undef, undef, undef, undef, undef, undef, undef, undef, undef, undef, undef, undef, undef, undef, undef, undef, undef, undef, undef, undef, undef, undef, undef, undef, undef, undef, undef, undef, undef] := by kernel_rfl
set_option maxRecDepth 100000 in
theorem wait_row (Wg : Nat) : (#[.pointer (some ⟨Wg, 0, none⟩)] : Array Value) ++ Array.replicate 83 undef = #[.pointer (some ⟨Wg, 0, none⟩), undef, undef, undef, undef, undef, undef, undef, undef, undef, undef, undef, undef, undef, undef, undef, undef, undef, undef, undef, undef, undef, undef, undef, undef, undef, undef, undef, undef, undef, undef, undef, undef, undef, undef, undef, undef, undef, undef, undef, undef, undef, undef, undef, undef, undef, undef, undef, undef, undef, undef, undef, undef, undef, undef, undef, undef, undef, undef, undef, undef, undef, undef, undef, undef, undef, undef, undef, undef, undef, undef, undef, undef, undef, undef, undef, undef, undef, undef, undef, undef, undef, undef, undef] := by kernel_rfl
theorem Rt.mono {Ju : Blk → Goroutine → World → Prop} {RB : List Frame} {B : Frame} {items : List Item} {Own : Blk} {A : Act} {Z Z' : World → Prop} (h : Rt Ju RB B items Own A Z') (hz : ∀ W, Z W → Z' W) : Rt Ju RB B items Own A Z := fun W z => h W (hz W z)
section
variable {W0 : World} {lo n : Nat} {Post : Value → World → Prop} {jobs : Nat → Option Job} {tag : ConcN.CTag} {Wg Bd d : Nat} {Sh : Shd} {RB : List Frame} {B : Frame} {Own : Blk} {A : Act} {k : List Item} {Z : World → Prop} {items : List Item}
theorem rt_part {Sh' : Shd} {Own' : Blk} (h1 : ∀ b, Own' b → Own b) (h2 : ∀ b, Sh' b → Sh b ∨ Own b) (h3 : ∀ b i, Sh'.cel b i → Sh.cel b i ∨ Own b) (h4 : ∀ b, Sh'.grp b → Sh.grp b) (h5 : ∀ b, Own' b → ¬ Sh' b) (h6 : ∀ b i, Sh'.cel b i → ¬ Own' b ∧ ¬ Sh' b)
    (h : Rt (MGo Try.prog W0 lo Post n jobs tag Wg Bd d Sh') RB B items Own' A Z) : Rt (MGo Try.prog W0 lo Post n jobs tag Wg Bd d Sh) RB B items Own A Z := fun W z => .part h1 h2 h3 h4 h5 h6 (h W z)
theorem rt_low (ht : tag ≠ .blk) (h : (∀ b, Own b → lo ≤ b) → (∀ b, Own b → ¬ Sh b) → (∀ b i, Sh.cel b i → ¬ Own b ∧ ¬ Sh b) → Rt (MGo Try.prog W0 lo Post n jobs tag Wg Bd d Sh) RB B items Own A Z) : Rt (MGo Try.prog W0 lo Post n jobs tag Wg Bd d Sh) RB B items Own A Z :=
  fun W z => .low rfl ht fun a b c => h a b c W z
theorem rt_mkgrp (hz : Stable Own Sh Z) (hB : B.kind ≠ .early) {ops : Array Oper} {i : Nat} {l : List Nat} {o : Oper} (ho : ops[i]? = some o) (hg : o.guard = none) (hop : o.op = .alloc 65) (hj : ∀ i, jobs i = none)
    (hn : ∀ W, Z W → MGo Try.prog W0 lo Post n jobs .kd W.heap.size 0 d { Sh with grp := fun b => Sh.grp b ∨ b = W.heap.size } Own (G (B.at (A.put o.dst (.pointer (some ⟨W.heap.size, 0, none⟩))) (.inRegion ops l :: k)) RB) (W.alloc (ConcR.wgBlock tyWg 0 0))) :
    Rt (MGo Try.prog W0 lo Post n jobs .ret Wg Bd d Sh) RB B (.inRegion ops (i :: l) :: k) Own A Z := fun W z => by
  have hw : Region.wanted o (yielded ops A.tmps) = true := by simp [Region.wanted, hg]
  have key : ∀ W1, stepG Try.prog true (G (B.at A (.inRegion ops (i :: l) :: k)) RB) W1 = .go (G (B.at (A.put o.dst (.pointer (some ⟨W1.heap.size, 0, none⟩))) (.inRegion ops l :: k)) RB) (W1.alloc (ConcR.wgBlock tyWg 0 0)) #[] := fun W1 => by
    have hl := allocWg (e := A.eval) (w := W1) hop
    rw [stepG_value ho hw hB hl.1]
    unfold listed
    rw [hl.2, seen_none]
  refine .mkgrp rfl hj (fun W1 _ => ⟨_, key W1⟩) fun W1 g' hr he => ?_
  rw [key W1] at he
  simp only [GStep.go.injEq] at he
  obtain ⟨rfl, _⟩ := he
  exact hn W1 (hz W W1 hr z)
set_option maxRecDepth 100000 in
theorem rt_add1 (hz : Stable Own Sh Z) (hB : B.kind ≠ .early) {ops : Array Oper} {i : Nat} {l : List Nat} {o : Oper} (ho : ops[i]? = some o) (hg : o.guard = none) {t : Tmp} {ats : Array TypeId}
    (hop : o.op = .call { callee := .value (.func 20), args := #[.tmp t, .const (.int .i64 1)], argTypes := ats }) (ht : A.eval (.tmp t) = .pointer (some ⟨Wg, 0, none⟩)) (hgr : Sh.grp Wg) (hno : ¬ Own Wg ∧ ¬ Sh Wg ∧ ∀ o, ¬ Sh.cel Wg o) (hBd : Bd + 1 < 2147483648)
    (hwg : ∀ W, Z W → GrpAt Wg W) (hn : Rt (MGo Try.prog W0 lo Post n jobs (.sp 0 0) Wg (Bd + 1) 0 Sh) RB B (.inRegion ops l :: k) Own (A.put o.dst (.tuple #[])) Z) :
    Rt (MGo Try.prog W0 lo Post n jobs .kd Wg Bd 0 Sh) RB B (.inRegion ops (i :: l) :: k) Own A Z := fun W z => by
  have hw : Region.wanted o (yielded ops A.tmps) = true := by simp [Region.wanted, hg]
  refine jud_mgo Try.prog W0 lo Post n jobs (by simp) Wg Bd 0 Sh _ _ _ (call_enter hB ho hw hop wgLib.f_add (ConcR.Gen.nm_add wgLink) (c := ConcR.Gen.body_add wgLink) rfl fun W1 hr => .stop ?_)
  have z1 := hz W W1 hr z
  have := add_walk (W0 := W0) (lo := lo) (Post := Post) (n := n) (jobs := jobs) (Own := Own) (W := W1) (b₀ := B) (a₀ := A) (ops₀ := ops) (i₀ := i) (rest₀ := l) (k₀ := k) (cs := RB) wgLib hgr hno hBd (fun w h => ?_) ⟨.refl _ _ _, hwg W1 z1⟩
  · have e : (#[.tmp t, .const (.int .i64 1)] : Array Operand).map A.eval = #[.pointer (some ⟨Wg, 0, none⟩), .int .i64 1] := by simp [ht]; rfl
    have hnt : (Lib.addFn wgLink).ntmps - 2 = 115 := by kernel_rfl
    rw [e, show (#[.pointer (some ⟨Wg, 0, none⟩), .int .i64 1] : Array Value).size = 2 from rfl, hnt, add_row]
    exact this
  · rw [show (ops[i]?).bind (·.dst) = o.dst from by rw [ho]; rfl]
    exact hn w (hz W1 w h.1 z1)
set_option maxRecDepth 100000 in
theorem rt_wait1 (hz : Stable Own Sh Z) (hB : B.kind ≠ .early) {ops : Array Oper} {i : Nat} {l : List Nat} {o : Oper} (ho : ops[i]? = some o) (hg : o.guard = none) {t : Tmp} {ats : Array TypeId}
    (hop : o.op = .call { callee := .value (.func 23), args := #[.tmp t], argTypes := ats }) (ht : A.eval (.tmp t) = .pointer (some ⟨Wg, 0, none⟩)) (hgr : Sh.grp Wg) (hno : ¬ Own Wg ∧ ¬ Sh Wg ∧ ∀ o, ¬ Sh.cel Wg o) (hBd : Bd < 2147483648)
    (hwg : ∀ W, Z W → GrpAt Wg W) {O : World → (Nat → Value) → (Nat → Blk) → Blk} {S : World → (Nat → Value) → (Nat → Blk) → Shd} (hJ : ∀ w vals owns, Z w → Handed jobs Own Sh vals owns w → Joins lo Own Sh jobs owns (O w vals owns) (S w vals owns))
    (hn : ∀ w vals owns w', Z w → Handed jobs Own Sh vals owns w → Rely (O w vals owns) (S w vals owns) w w' → MGo Try.prog W0 lo Post n (fun _ => none) .ret Wg 0 0 (S w vals owns) (O w vals owns) (G (B.at (A.put o.dst (.tuple #[])) (.inRegion ops l :: k)) RB) w') :
    Rt (MGo Try.prog W0 lo Post n jobs .kd Wg Bd 0 Sh) RB B (.inRegion ops (i :: l) :: k) Own A Z := fun W z => by
  have hw : Region.wanted o (yielded ops A.tmps) = true := by simp [Region.wanted, hg]
  refine jud_mgo Try.prog W0 lo Post n jobs (by simp) Wg Bd 0 Sh _ _ _ (call_enter hB ho hw hop wgLib.f_wait (ConcR.Gen.nm_wait wgLink) (c := ConcR.Gen.body_wait wgLink) rfl fun W1 hr => .stop ?_)
  have z1 := hz W W1 hr z
  have := wait_walk (W0 := W0) (lo := lo) (Post := Post) (n := n) (jobs := jobs) (Own := Own) (W := W1) (b₀ := B) (a₀ := A) (ops₀ := ops) (i₀ := i) (rest₀ := l) (k₀ := k) (cs := RB) wgLib hgr hno (O := O) (S := S) (fun w vals owns h hh => hJ w vals owns (hz W1 w h.1 z1) hh) (fun w vals owns w' h hh hr' => ?_) hBd ⟨.refl _ _ _, hwg W1 z1⟩
  · have e : (#[.tmp t] : Array Operand).map A.eval = #[.pointer (some ⟨Wg, 0, none⟩)] := by simp [ht]
    have hnt : (Lib.waitFn wgLink).ntmps - 1 = 83 := by kernel_rfl
    rw [e, show (#[.pointer (some ⟨Wg, 0, none⟩)] : Array Value).size = 1 from rfl, hnt, wait_row]
    exact this
  · rw [show (ops[i]?).bind (·.dst) = o.dst from by rw [ho]; rfl]
    exact hn w vals owns w' (hz W1 w h.1 z1) hh hr'
theorem rt_spawn (hz : Stable Own Sh Z) (hB : B.kind ≠ .early) {ops : Array Oper} {i : Nat} {l : List Nat} {o : Oper} (ho : ops[i]? = some o) (hg : o.guard = none) {t : Tmp} (hop : o.op = .go { callee := .value (.tmp t), args := #[], argTypes := #[] })
    {f : FuncId} {caps : Array Value} (hcap : A.eval (.tmp t) = .func (.func f) #[] caps) {Sc Sh' : Shd} {jb : Job} (ht : Takes Sh Sc Sh')
    (hchild : ∀ W, Z W → Goes' Try.prog false Sc (AtDone Try.prog Wg jb Sc) (fun _ => False) (born Try.prog { target := .fn (.func f) caps, args := #[] }) W)
    (hn : Rt (MGo Try.prog W0 lo Post (n + 1) (updJ jobs n (some jb)) .kd Wg Bd 0 Sh') RB B (.inRegion ops l :: k) Own (A.put o.dst undef) Z) :
    Rt (MGo Try.prog W0 lo Post n jobs (.sp 0 0) Wg Bd 0 Sh) RB B (.inRegion ops (i :: l) :: k) Own A Z := fun W z => by
  have hw : Region.wanted o (yielded ops A.tmps) = true := by simp [Region.wanted, hg]
  refine MGo.spawn (g' := G (B.at (A.put o.dst undef) (.inRegion ops l :: k)) RB) (child := born Try.prog { target := .fn (.func f) caps, args := #[] }) (jb := jb) rfl rfl (fun W1 _ => ?_) ht ht.cel (hchild W z) (hn W z)
  rw [stepG_spawn ho hw hB (run_go hop hcap W1).1 rfl]
  unfold listed
  rw [(run_go hop hcap W1).2, seen_none]
end
end Go.Proofs.Ytkodpijedinanaa.Sim
