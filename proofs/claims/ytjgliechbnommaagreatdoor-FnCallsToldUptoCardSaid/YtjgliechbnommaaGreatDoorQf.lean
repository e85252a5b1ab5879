/- The engine and the contracts of the functions that the claim reaches (texts packed, part 6). -/
import Derived.Test.YtjgliechbnommaaGreatDoorQe
set_option linter.unusedVariables false
set_option linter.unusedSimpArgs false
namespace Go.Proofs.YtjgliechbnommaaGreatDoor
open Go.Eng
theorem cl17 : Callable Tryz.prog 17 := Zq Tryz.func17
theorem cl21 : Callable Tryz.prog 21 := Zq Tryz.func21
theorem cl22 : Callable Tryz.prog 22 := Zq Tryz.func22
theorem cl23 : Callable Tryz.prog 23 := Zq Tryz.func23
theorem cl24 : Callable Tryz.prog 24 := Zq Tryz.func24
theorem cl25 : Callable Tryz.prog 25 := Zq Tryz.func25
theorem cl26 : Callable Tryz.prog 26 := Zq Tryz.func26
theorem cl29 : Callable Tryz.prog 29 := Zq Tryz.func29
theorem cl31 : Callable Tryz.prog 31 := Zq Tryz.func31
set_option maxHeartbeats 16000000 in
set_option maxRecDepth 4000 in
theorem c_lawCallsTold (bs : List Int) (hbs : (bs.length : Int) ≤ 1048576) : PCall Tryz.prog 5 [.sl .one (u8s bs)] (· = [.c (.bool true)]) := by
 refine PCall_of (n := 77) Tryz.func5 rfl rfl (Nat.le_of_ble_eq_true rfl) fun C hdm hT0 => ?_
 have hT := hT0
 refine Zs fun _ hK1 => ?_
 refine Za ?_
 refine Zn hK1 ?_
 refine AC_seq fun _ hK2 => ?_
 refine Zs fun _ hK3 => ?_
 refine Zm ?_
 refine AL_fcall0 hT rfl cl7 (c_big bs) rfl rfl ?_
 refine Zn hK3 ?_
 refine Zc (fun hc1 => ?_) fun hc1 => ?_
 ·have : (bs.length : Int) > 1048576 := of_decide_eq_true hc1
  omega
 ·refine Zk hK2 ?_
  refine Zs fun _ hK4 => ?_
  refine Zm ?_
  refine AL_pcall0 hT rfl cl24 (c_drawCallsIn bs (by simp only [lim]; omega)) rfl rfl ?_
  rintro _ ⟨⟨tk, ts, tm, tks⟩, rfl, hbt⟩
  have hiA : PCall Tryz.prog 27 [inj (.mk tk ts tm tks)] (· = [.sl .one (strs (callsIn (.mk tk ts tm tks)))]) := (c_callsIn (.mk tk ts tm tks) (by omega)).pcall
  have hsA : PCall Tryz.prog 28 [inj (.mk tk ts tm tks)] (· = [.sl .one (strs (callsIn (.mk tk ts tm tks)))]) := c_specCallsIn (.mk tk ts tm tks) (by omega)
  revert hiA hsA
  generalize callsIn (.mk tk ts tm tks) = rA
  intro hiA hsA
  refine AL_alloc zo41 _ rfl rfl ?_
  refine Ys ts41 ?_
  refine Zn hK4 ?_
  refine Zs fun _ hK5 => ?_
  refine Zm ?_
  refine AL_pcall0 hT rfl cl25 (c_drawCallsOf bs (by simp only [lim]; omega)) rfl rfl ?_
  rintro _ ⟨⟨cs, op⟩, p, rfl, hbd, hcl, hop, hp6⟩
  have hb9 : bulkD ⟨cs, op⟩ ≤ 1048576 := by omega
  have hiP : PCall Tryz.prog 16 [injD ⟨cs, op⟩] (· = [.sl .one (strs (predsF cs []))]) := (c_predsOf ⟨cs, op⟩ hb9).pcall
  have hsP : PCall Tryz.prog 9 [injD ⟨cs, op⟩] (· = [.sl .one (strs (predsF cs []))]) := c_specPredsOf ⟨cs, op⟩ hb9
  have hiC : PCall Tryz.prog 19 [injD ⟨cs, op⟩, .c (.string p)] (· = [.sl .one (strs (callsOf ⟨cs, op⟩ p))]) := (c_callsOf ⟨cs, op⟩ p hb9).pcall
  have hsC : PCall Tryz.prog 14 [injD ⟨cs, op⟩, .c (.string p)] (· = [.sl .one (strs (callsOf ⟨cs, op⟩ p))]) := c_specCallsOf ⟨cs, op⟩ p hb9
  have hiM : PCall Tryz.prog 17 [injD ⟨cs, op⟩] (· = [.sl .one (strs (missIn ⟨cs, op⟩))]) := (c_missingIn ⟨cs, op⟩ hb9).ocall.pcall
  have hsM : PCall Tryz.prog 29 [injD ⟨cs, op⟩] (· = [.sl .one (strs (missIn ⟨cs, op⟩))]) := c_specMissingIn ⟨cs, op⟩ hb9
  have hiR : PCall Tryz.prog 18 [injD ⟨cs, op⟩, .c (.string p)] (· = [.sl .one (strs (reachedFrom ⟨cs, op⟩ p))]) := (c_reachedFromN ⟨cs, op⟩ p hb9).ocall.pcall
  have hsR : PCall Tryz.prog 30 [injD ⟨cs, op⟩, .c (.string p)] (· = [.sl .one (strs (reachedFrom ⟨cs, op⟩ p))]) := c_specReachedFrom ⟨cs, op⟩ p hb9
  have hiE : PCall Tryz.prog 21 [injD ⟨cs, op⟩, .c (.string p)] (· = [.c (.bool (hasS (reachedFrom ⟨cs, op⟩ p) p))]) := c_recursive ⟨cs, op⟩ p hb9
  have hsE : PCall Tryz.prog 12 [injD ⟨cs, op⟩, .c (.string p)] (· = [.c (.bool (hasS (reachedFrom ⟨cs, op⟩ p) p))]) := c_specRecursive ⟨cs, op⟩ p hb9
  revert hiP hsP hiC hsC hiM hsM hiR hsR hiE hsE
  generalize hasS (reachedFrom ⟨cs, op⟩ p) p = rE
  generalize reachedFrom ⟨cs, op⟩ p = rR
  generalize missIn ⟨cs, op⟩ = rM
  generalize callsOf ⟨cs, op⟩ p = rC
  generalize predsF cs [] = rP
  intro hiP hsP hiC hsC hiM hsM hiR hsR hiE hsE
  refine Zm ?_
  refine Ze (Ev_extract rfl rfl) ?_
  refine Ze (Ev_extract rfl rfl) ?_
  refine AL_alloc zo27 _ rfl rfl ?_
  refine Ys ts27 ?_
  refine Za ?_
  refine Zn hK5 ?_
  refine Zs fun _ hK6 => ?_
  refine Zm ?_
  refine AL_pcall0 hT rfl cl26 (c_drawUnreached bs (by simp only [lim]; omega)) rfl rfl ?_
  rintro _ ⟨⟨cs2, op2⟩, ps, rfl, hbe, hcl2, hop2, hpl, hps⟩
  have hu9 : bulkD ⟨cs2, op2⟩ + (ps.length + bulkSs ps) ≤ 1048576 := by omega
  have hiU : PCall Tryz.prog 23 [injD ⟨cs2, op2⟩, .sl .one (strs ps)] (· = [.sl .one (strs (unreached ⟨cs2, op2⟩ ps))]) := (c_unreached ⟨cs2, op2⟩ ps hu9).ocall.pcall
  have hsU : PCall Tryz.prog 31 [injD ⟨cs2, op2⟩, .sl .one (strs ps)] (· = [.sl .one (strs (unreached ⟨cs2, op2⟩ ps))]) := c_specUnreached ⟨cs2, op2⟩ ps hu9
  revert hiU hsU
  generalize unreached ⟨cs2, op2⟩ ps = rU
  intro hiU hsU
  refine Zm ?_
  refine Ze (Ev_extract rfl rfl) ?_
  refine Ze (Ev_extract rfl rfl) ?_
  refine AL_alloc zo27 _ rfl rfl ?_
  refine Ys ts27 ?_
  refine Za ?_
  refine Zn hK6 ?_
  refine AC_seq fun _ hK7 => ?_
  refine AC_wk (Wk_to [] [(3, .d (.rp LT (inj (.mk tk ts tm tks)) [])), (4, .d (.rp LD (injD ⟨cs, op⟩) [])), (5, .d (.c (.string p))), (6, .d (.rp LD (injD ⟨cs2, op2⟩) [])), (7, .d (.sl .one (strs ps)))] [] rfl rfl BxTo_nil Sl_ ?_)
  refine AC_draw hT follows [0, 1, 2, 3, 4, 5, 6, 7, 8, 9, 10, 11, 12, 13, 14, 15, 16, 17, 18, 19, 20, 21, 22, 23, 24, 25, 26, 27, 28, 29, 30, 31, 32, 33, 34, 35, 36, 37, 38, 39, 40, 41, 42, 43, 44, 45, 46, 47, 48, 49, 50, 51, 52, 53, 54, 55] (by kernel_rfl) ?_
  refine DT_ev rfl (EA_load_rp rfl rfl rfl ts41 ta41 (by rfl) (by intro h; cases h)) rfl ?_
  refine DT_fcall0 rfl rfl cl27 (hiA) rfl rfl ?_
  refine DT_ev rfl (EA_load_rp rfl rfl rfl ts41 ta41 (by rfl) (by intro h; cases h)) rfl ?_
  refine DT_fcall0 rfl rfl cl28 (hsA) rfl rfl ?_
  refine DT_fcall0 rfl rfl cl22 (c_sameTexts rA) rfl rfl ?_
  refine DT_ev rfl (EA_move) rfl ?_
  refine DT_bool 27 rfl (fun hg2 => ?_) (fun hg2 => ?_)
  ·refine DT_evt rfl rfl rfl rfl (EA_load_rp rfl rfl rfl ts27 ta27 (by rfl) (by intro h; cases h)) rfl ?_
   refine DT_fcall0t rfl rfl rfl rfl rfl cl16 (hiP) rfl rfl ?_
   refine DT_evt rfl rfl rfl rfl (EA_load_rp rfl rfl rfl ts27 ta27 (by rfl) (by intro h; cases h)) rfl ?_
   refine DT_fcall0t rfl rfl rfl rfl rfl cl9 (hsP) rfl rfl ?_
   refine DT_fcall0t rfl rfl rfl rfl rfl cl22 (c_sameTexts rP) rfl rfl ?_
   refine DT_ev rfl (EA_pick rfl) rfl ?_
   refine DT_ev rfl (EA_move) rfl ?_
   refine DT_bool 34 rfl (fun hg3 => ?_) (fun hg3 => ?_)
   ·refine DT_evt rfl rfl rfl rfl (EA_load_rp rfl rfl rfl ts27 ta27 (by rfl) (by intro h; cases h)) rfl ?_
    refine DT_evt rfl rfl rfl rfl (EA_move) rfl ?_
    refine DT_fcall0t rfl rfl rfl rfl rfl cl19 (hiC) rfl rfl ?_
    refine DT_evt rfl rfl rfl rfl (EA_load_rp rfl rfl rfl ts27 ta27 (by rfl) (by intro h; cases h)) rfl ?_
    refine DT_evt rfl rfl rfl rfl (EA_move) rfl ?_
    refine DT_fcall0t rfl rfl rfl rfl rfl cl14 (hsC) rfl rfl ?_
    refine DT_fcall0t rfl rfl rfl rfl rfl cl22 (c_sameTexts rC) rfl rfl ?_
    refine DT_ev rfl (EA_pick rfl) rfl ?_
    refine DT_ev rfl (EA_move) rfl ?_
    refine DT_bool 43 rfl (fun hg4 => ?_) (fun hg4 => ?_)
    ·refine DT_evt rfl rfl rfl rfl (EA_load_rp rfl rfl rfl ts27 ta27 (by rfl) (by intro h; cases h)) rfl ?_
     refine DT_fcall0t rfl rfl rfl rfl rfl cl17 (hiM) rfl rfl ?_
     refine DT_evt rfl rfl rfl rfl (EA_load_rp rfl rfl rfl ts27 ta27 (by rfl) (by intro h; cases h)) rfl ?_
     refine DT_fcall0t rfl rfl rfl rfl rfl cl29 (hsM) rfl rfl ?_
     refine DT_fcall0t rfl rfl rfl rfl rfl cl22 (c_sameTexts rM) rfl rfl ?_
     refine DT_ev rfl (EA_pick rfl) rfl ?_
     refine DT_ev rfl (EA_move) rfl ?_
     refine DT_bool 50 rfl (fun hg5 => ?_) (fun hg5 => ?_)
     ·refine DT_evt rfl rfl rfl rfl (EA_load_rp rfl rfl rfl ts27 ta27 (by rfl) (by intro h; cases h)) rfl ?_
      refine DT_evt rfl rfl rfl rfl (EA_move) rfl ?_
      refine DT_fcall0t rfl rfl rfl rfl rfl cl18 (hiR) rfl rfl ?_
      refine DT_evt rfl rfl rfl rfl (EA_load_rp rfl rfl rfl ts27 ta27 (by rfl) (by intro h; cases h)) rfl ?_
      refine DT_evt rfl rfl rfl rfl (EA_move) rfl ?_
      refine DT_fcall0t rfl rfl rfl rfl rfl cl30 (hsR) rfl rfl ?_
      refine DT_fcall0t rfl rfl rfl rfl rfl cl22 (c_sameTexts rR) rfl rfl ?_
      refine DT_ev rfl (EA_pick rfl) rfl ?_
      refine DT_ev rfl (EA_move) rfl ?_
      refine DT_bool 59 rfl (fun hg6 => ?_) (fun hg6 => ?_)
      ·refine DT_evt rfl rfl rfl rfl (EA_load_rp rfl rfl rfl ts27 ta27 (by rfl) (by intro h; cases h)) rfl ?_
       refine DT_evt rfl rfl rfl rfl (EA_move) rfl ?_
       refine DT_fcall0t rfl rfl rfl rfl rfl cl21 (hiE) rfl rfl ?_
       refine DT_evt rfl rfl rfl rfl (EA_load_rp rfl rfl rfl ts27 ta27 (by rfl) (by intro h; cases h)) rfl ?_
       refine DT_evt rfl rfl rfl rfl (EA_move) rfl ?_
       refine DT_fcall0t rfl rfl rfl rfl rfl cl12 (hsE) rfl rfl ?_
       refine DT_evt rfl rfl rfl rfl (EA_beql tbool4 rfl rfl) rfl ?_
       refine DT_ev rfl (EA_pick rfl) rfl ?_
       refine DT_ev rfl (EA_move) rfl ?_
       refine DT_bool 68 rfl (fun hg7 => ?_) (fun hg7 => ?_)
       ·refine DT_evt rfl rfl rfl rfl (EA_load_rp rfl rfl rfl ts27 ta27 (by rfl) (by intro h; cases h)) rfl ?_
        refine DT_evt rfl rfl rfl rfl (EA_move) rfl ?_
        refine DT_fcall0t rfl rfl rfl rfl rfl cl23 (hiU) rfl rfl ?_
        refine DT_evt rfl rfl rfl rfl (EA_load_rp rfl rfl rfl ts27 ta27 (by rfl) (by intro h; cases h)) rfl ?_
        refine DT_evt rfl rfl rfl rfl (EA_move) rfl ?_
        refine DT_fcall0t rfl rfl rfl rfl rfl cl31 (hsU) rfl rfl ?_
        refine DT_fcall0t rfl rfl rfl rfl rfl cl22 (c_sameTexts rU) rfl rfl ?_
        refine DT_ev rfl (EA_pick rfl) rfl ?_
        refine DT_ev rfl (EA_assign) rfl ?_
        refine Zd hK7 ?_
        refine AC_ret ?_
        exact Zr hdm rfl
       ·simp at hg7
      ·simp at hg6
     ·simp at hg5
    ·simp at hg4
   ·simp at hg3
  ·simp at hg2
end Go.Proofs.YtjgliechbnommaaGreatDoor
