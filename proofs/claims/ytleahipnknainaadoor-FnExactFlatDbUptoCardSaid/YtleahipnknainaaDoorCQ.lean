/- Contracts of functions. -/
import Derived.Test.YtleahipnknainaaDoorMt
import Derived.Test.YtleahipnknainaaDoorOk
import Derived.Test.YtleahipnknainaaDoorWn
import Derived.Test.YtleahipnknainaaDoorEng27
import Derived.Test.YtleahipnknainaaDoorOw
import Derived.Test.YtleahipnknainaaDoorGd
import Derived.Test.YtleahipnknainaaDoorProg
import Derived.KernelRfl
import Derived.Test.YtleahipnknainaaDoorCA
import Derived.Test.YtleahipnknainaaDoorCC
import Derived.Test.YtleahipnknainaaDoorCF
import Derived.Test.YtleahipnknainaaDoorCG
import Derived.Test.YtleahipnknainaaDoorCO
import Derived.Test.YtleahipnknainaaDoorCP
set_option linter.unusedVariables false
set_option linter.unusedSimpArgs false
namespace Go.Proofs.YtleahipnknainaaDoor
open Go.Eng

theorem cl113 : Callable Tryd.prog 113 := Callable_of Tryd.func113 (by kernel_rfl) (by kernel_rfl)
theorem cl114 : Callable Tryd.prog 114 := Callable_of Tryd.func114 (by kernel_rfl) (by kernel_rfl)
theorem cl15 : Callable Tryd.prog 15 := Callable_of Tryd.func15 (by kernel_rfl) (by kernel_rfl)
theorem cl17 : Callable Tryd.prog 17 := Callable_of Tryd.func17 (by kernel_rfl) (by kernel_rfl)
theorem cl20 : Callable Tryd.prog 20 := Callable_of Tryd.func20 (by kernel_rfl) (by kernel_rfl)
theorem cl40 : Callable Tryd.prog 40 := Callable_of Tryd.func40 (by kernel_rfl) (by kernel_rfl)
theorem cl41 : Callable Tryd.prog 41 := Callable_of Tryd.func41 (by kernel_rfl) (by kernel_rfl)
theorem cl46 : Callable Tryd.prog 46 := Callable_of Tryd.func46 (by kernel_rfl) (by kernel_rfl)
theorem cl47 : Callable Tryd.prog 47 := Callable_of Tryd.func47 (by kernel_rfl) (by kernel_rfl)
theorem cl87 : Callable Tryd.prog 87 := Callable_of Tryd.func87 (by kernel_rfl) (by kernel_rfl)
theorem cl88 : Callable Tryd.prog 88 := Callable_of Tryd.func88 (by kernel_rfl) (by kernel_rfl)
theorem cl89 : Callable Tryd.prog 89 := Callable_of Tryd.func89 (by kernel_rfl) (by kernel_rfl)
theorem ta25 : tyAgg Tryd.prog 25 = some true := by kernel_rfl
theorem tbool4 : tyBool Tryd.prog 4 = true := by kernel_rfl
theorem ts25 : tySize Tryd.prog 25 = some 2 := by kernel_rfl

set_option maxHeartbeats 4000000 in
set_option maxRecDepth 4000 in
theorem c_flatDb (d : Dbt) (hb : bulkD d ≤ 1048576) : PCall Tryd.prog 47 [injD d] (· = [.c (.bool (flatDB d))]) := by
  obtain ⟨cs, op⟩ := d
  obtain ⟨hnc, hbc, hno, hbo⟩ := bulkD_bd hb
  refine PCall_of (n := 70) Tryd.func47 rfl rfl (Nat.le_of_ble_eq_true rfl) fun C hdm hT0 => ?_
  have hT := hT0
  refine AC_seq fun K1 hK1 => ?_
  refine AC_region ?_
  refine AL_box (Lay.st [.one, .one]) (nf rfl) rfl (by first | rfl | simp [Lay.len, Lay.lens]) _ rfl rfl ?_
  refine AL_ev (Ev_assign) rfl ?_
  refine AL_nil ?_
  refine hK1 _ _ _ ?_
  refine AC_seq fun K2 hK2 => ?_
  refine AC_seq fun K3 hK3 => ?_
  refine AC_region ?_
  first | refine AL_ev (Ev_load_ptr rfl rfl rfl rfl rfl rfl ts30 ta30 (by first | rfl | simp) (by intro h; cases h)) rfl ?_ | refine AL_ev (Ev_load_rp rfl rfl rfl ts30 ta30 (by first | rfl | simp) (by intro h; cases h)) rfl ?_
  refine AL_fcall0 hT rfl cl41 (c_plainDb ⟨cs, op⟩ (by omega)) rfl rfl ?_
  refine AL_ev (Ev_not rfl) rfl ?_
  refine AL_nil ?_
  refine hK3 _ _ _ ?_
  refine AC_cond rfl (fun hc1 => ?_) (fun hc1 => ?_)
  · skip
    refine AC_seq fun K4 hK4 => ?_
    refine AC_region ?_
    refine AL_ev (Ev_assign) rfl ?_
    refine AL_nil ?_
    refine hK4 _ _ _ ?_
    refine AC_ret ?_
    refine ret_ok hdm (.tmp rfl rfl .nil) (.cons .d .nil) ?_
    rw [flatDB, show plainB ⟨cs, op⟩ = false by simpa using hc1, Bool.and_false]
  · skip
    have hpl : plainB ⟨cs, op⟩ = true := by simpa using hc1
    refine AC_skip ?_
    refine hK2 _ _ _ ?_
    refine AC_seq fun K5 hK5 => ?_
    refine AC_seq fun K6 hK6 => ?_
    refine AC_region ?_
    first | refine AL_ev (Ev_fa_ptr rfl fa30_0 rfl rfl) rfl ?_ | refine AL_ev (Ev_fa_rp rfl fa30_0 rfl rfl) rfl ?_
    first | refine AL_ev (Ev_load_ptr rfl rfl rfl rfl rfl rfl ts28 ta28 rfl (fun _ => rfl)) rfl ?_ | refine AL_ev (Ev_load_rp rfl rfl rfl ts28 ta28 rfl (fun _ => rfl)) rfl ?_
    first | refine AL_lim (x := (Operand.tmp 16)) rfl fun hl1 => ?_ | refine AL_limB (x := (Operand.tmp 16)) rfl rfl (by first | rfl | (simp; done) | (simp; omega)) fun hl1 => ?_ | have hl1 := True.intro
    try simp only [injs_length, ints_length, strs_length, injCs_length, List.length_map] at hl1
    first | refine AL_ev (Ev_len_injCs te28 rfl) rfl ?_ | refine AL_ev (Ev_len_sl te28 rfl) rfl ?_ | refine AL_ev (Ev_len_ref te28 rfl) rfl ?_ | refine AL_ev (Ev_len_nil te28 rfl) rfl ?_ | refine AL_ev (Ev_len_c te28 rfl) rfl ?_
    refine AL_ev (Ev_move) rfl ?_
    refine AL_nil ?_
    refine hK6 _ _ _ ?_
    refine AC_block ?_
    refine AC_loopS [16, 17] (Nat) (fun j => [(18, i64 j)]) (fun j => []) (fun st => cs.length - st) (fun j => j ≤ cs.length ∧ cs.all flatC1 = (cs.drop j).all flatC1) (0) ?_ ?_ ?_
    · skip
      exact enterS [] rfl rfl BxTo_nil (SlTo_cons (by first | exact .rd .d | exact Vw_int (by first | rfl | assumption | omega | (simp; done) | (simp; omega)) | exact Vw_c (by first | rfl | (simp; done) | simp_all) | exact .any) (SlTo_cons (by first | exact .rd .d | exact .any) (SlTo_cons (by first | exact .rd .d | exact .any) SlTo_nil)))
    · skip
      exact ⟨Nat.zero_le _, by simp⟩
    rintro j ⟨hj, hI⟩
    show AC _ _ _ _ _ (FS [16, 17] _ [(18, i64 j)]) []
    refine AC_seq fun K7 hK7 => ?_
    refine AC_region ?_
    refine AL_ev (Ev_lss rfl rfl) rfl ?_
    refine AL_nil ?_
    refine hK7 _ _ _ ?_
    refine AC_seq fun K8 hK8 => ?_
    refine AC_cond rfl (fun hc2 => ?_) (fun hc2 => ?_)
    · skip
      have hlt : j < cs.length := by simpa using hc2
      obtain ⟨u, hu⟩ : ∃ x, cs[j]? = some x := ⟨_, List.getElem?_eq_getElem hlt⟩
      have hu2 := injCs_get hu
      have hdr := drop_get hu
      obtain ⟨hbu, hbv, _⟩ := bulkCs_bd (List.mem_of_getElem? hu) hbc
      have hsh := sz_bulk u.h
      have hsb := sz_bulk u.b
      have hgz := goalsIn_szs u.b
      have hgu := plainB_goal hpl (List.mem_of_getElem? hu)
      rw [hdr, List.all_cons, flatC1_eq hgu] at hI
      refine AC_skip ?_
      refine hK8 _ _ _ ?_
      refine AC_seq fun K9 hK9 => ?_
      refine AC_block ?_
      refine AC_seq fun K10 hK10 => ?_
      refine AC_region ?_
      first | refine AL_ev (Ev_ix_sl rfl rfl te28 ts68 (by omega) (by assumption)) rfl ?_ | refine AL_ev (Ev_ix_ref rfl rfl te28 ts68 (by omega) (by first | omega | (simp; omega))) rfl ?_
      first | refine AL_ev (Ev_load_ptr rfl rfl rfl rfl rfl rfl ts68 ta68 (by first | rfl | simp) (by intro h; cases h)) rfl ?_ | refine AL_ev (Ev_load_rp rfl rfl rfl ts68 ta68 (by first | rfl | simp) (by intro h; cases h)) rfl ?_
      refine AL_alloc zo68 _ rfl rfl ?_
      first | refine AL_store rfl (nf rfl) rfl rfl rfl rfl rfl rfl (by first | rfl | simp [Lay.len, Lay.lens]) ts68 rfl rfl ?_ | refine AL_store rfl (nf rfl) rfl rfl rfl hes rfl rfl (by first | rfl | simp [Lay.len, Lay.lens]) ts68 rfl rfl ?_
      refine AL_nil ?_
      refine hK10 _ _ _ ?_
      refine AC_seq fun K11 hK11 => ?_
      refine AC_region ?_
      first | refine AL_ev (Ev_fa_ptr rfl fa68_1 rfl rfl) rfl ?_ | refine AL_ev (Ev_fa_rp rfl fa68_1 rfl rfl) rfl ?_
      first | refine AL_ev (Ev_load_ptr rfl rfl rfl rfl rfl rfl ts45 ta45 (by first | rfl | simp) (by intro h; cases h)) rfl ?_ | refine AL_ev (Ev_load_rp rfl rfl rfl ts45 ta45 (by first | rfl | simp) (by intro h; cases h)) rfl ?_
      refine AL_fcall0 hT rfl cl27 ((c_goalsIn u.b (by omega)).pcall rfl) rfl rfl ?_
      refine AL_ev (Ev_move) rfl ?_
      refine AL_ev (Ev_extract rfl rfl) rfl ?_
      refine AL_ev (Ev_extract rfl rfl) rfl ?_
      refine AL_ev (Ev_assign) rfl ?_
      refine AL_ev (Ev_assign) rfl ?_
      refine AL_nil ?_
      refine hK11 _ _ _ ?_
      refine AC_seq fun K12 hK12 => ?_
      refine AC_seq fun K13 hK13 => ?_
      refine AC_region ?_
      refine AL_ev (Ev_move) rfl ?_
      first | refine AL_lim (x := (Operand.tmp 28)) rfl fun hl2 => ?_ | refine AL_limB (x := (Operand.tmp 28)) rfl rfl (by first | rfl | (simp; done) | (simp; omega)) fun hl2 => ?_ | have hl2 := True.intro
      try simp only [injs_length, ints_length, strs_length, injCs_length, List.length_map] at hl2
      first | refine AL_ev (Ev_len_injs te41 rfl) rfl ?_ | refine AL_ev (Ev_len_sl te41 rfl) rfl ?_ | refine AL_ev (Ev_len_ref te41 rfl) rfl ?_ | refine AL_ev (Ev_len_nil te41 rfl) rfl ?_ | refine AL_ev (Ev_len_c te41 rfl) rfl ?_
      refine AL_ev (Ev_gtr rfl rfl) rfl ?_
      refine AL_ev (Ev_move) rfl ?_
      refine AL_bool 31 rfl (fun hg3 => ?_) (fun hg3 => ?_)
      · skip
        refine AL_guard_f rfl rfl rfl rfl ?_
        refine AL_guard_f rfl rfl rfl rfl ?_
        refine AL_guard_f rfl rfl rfl rfl ?_
        refine AL_guard_f rfl rfl rfl rfl ?_
        refine AL_ev (Ev_pick rfl) rfl ?_
        refine AL_nil ?_
        refine hK13 _ _ _ ?_
        refine AC_cond_t rfl ?_
        refine AC_seq fun K14 hK14 => ?_
        refine AC_region ?_
        refine AL_ev (Ev_assign) rfl ?_
        refine AL_nil ?_
        refine hK14 _ _ _ ?_
        refine AC_ret ?_
        refine ret_ok hdm (.tmp rfl rfl .nil) (.cons .d .nil) ?_
        have hz : ¬ ((goalsIn u.b).1.length : Int) ≤ 2 := by simpa using hg3
        rw [flatDB, hI]
        simp [hz]
      · skip
        refine AL_guard_t rfl rfl rfl ?_
        first | refine AL_ev (Ev_fa_ptr rfl fa68_0 rfl rfl) rfl ?_ | refine AL_ev (Ev_fa_rp rfl fa68_0 rfl rfl) rfl ?_
        refine AL_guard_t rfl rfl rfl ?_
        first | refine AL_ev (Ev_load_ptr rfl rfl rfl rfl rfl rfl ts45 ta45 (by first | rfl | simp) (by intro h; cases h)) rfl ?_ | refine AL_ev (Ev_load_rp rfl rfl rfl ts45 ta45 (by first | rfl | simp) (by intro h; cases h)) rfl ?_
        refine AL_guard_t rfl rfl rfl ?_
        refine AL_fcall0 hT rfl cl88 (c_flatTerm u.h (by omega)) rfl rfl ?_
        refine AL_guard_t rfl rfl rfl ?_
        refine AL_ev (Ev_not rfl) rfl ?_
        refine AL_ev (Ev_pick rfl) rfl ?_
        refine AL_nil ?_
        refine hK13 _ _ _ ?_
        refine AC_cond rfl (fun hc4 => ?_) (fun hc4 => ?_)
        · skip
          refine AC_seq fun K15 hK15 => ?_
          refine AC_region ?_
          refine AL_ev (Ev_assign) rfl ?_
          refine AL_nil ?_
          refine hK15 _ _ _ ?_
          refine AC_ret ?_
          refine ret_ok hdm (.tmp rfl rfl .nil) (.cons .d .nil) ?_
          have hz : flatT u.h = false := by simpa using hc4
          rw [flatDB, hI]
          simp [hz]
        · skip
          refine AC_skip ?_
          refine hK12 _ _ _ ?_
          refine AC_seq fun K16 hK16 => ?_
          refine AC_region ?_
          refine AL_ev (Ev_assign) rfl ?_
          refine AL_nil ?_
          refine hK16 _ _ _ ?_
          refine AC_seq fun K17 hK17 => ?_
          refine AC_seq fun K18 hK18 => ?_
          refine AC_region ?_
          refine AL_ev (Ev_move) rfl ?_
          first | refine AL_lim (x := (Operand.tmp 37)) rfl fun hl3 => ?_ | refine AL_limB (x := (Operand.tmp 37)) rfl rfl (by first | rfl | (simp; done) | (simp; omega)) fun hl3 => ?_ | have hl3 := True.intro
          try simp only [injs_length, ints_length, strs_length, injCs_length, List.length_map] at hl3
          first | refine AL_ev (Ev_len_injs te41 rfl) rfl ?_ | refine AL_ev (Ev_len_sl te41 rfl) rfl ?_ | refine AL_ev (Ev_len_ref te41 rfl) rfl ?_ | refine AL_ev (Ev_len_nil te41 rfl) rfl ?_ | refine AL_ev (Ev_len_c te41 rfl) rfl ?_
          refine AL_ev (Ev_move) rfl ?_
          refine AL_nil ?_
          refine hK18 _ _ _ ?_
          refine AC_block ?_
          refine AC_loopS [16, 17, 18, 37, 38] (Nat × List Int) (fun ⟨i, mt⟩ => [(39, i64 i), (7, .ref .one 0 0 (ints mt).length), (4, .d (.rp LC (injC u) []))]) (fun ⟨i, mt⟩ => [some ⟨3, .one, (ints mt).map V.d⟩]) (fun st => (goalsIn u.b).1.length - st.1) (fun ⟨i, mt⟩ => i ≤ (goalsIn u.b).1.length ∧ ((goalsIn u.b).1.all goalB = ((goalsIn u.b).1.drop i).all goalB ∧ metF (goalsIn u.b).1 = mt ++ metF ((goalsIn u.b).1.drop i) ∧ mt.length + szs ((goalsIn u.b).1.drop i) ≤ szs (goalsIn u.b).1)) ((0, [])) ?_ ?_ ?_
          · skip
            refine Wk.then (Wk_nil_slot 7 3 .one rfl 1 rfl ?_)
            exact enterS [some 1] rfl rfl (BxTo_some rfl rfl rfl rfl (by first | exact .nil | exact VwL_dd (by first | rfl | simp) | exact VwL_app (by first | rfl | simp) | exact VwL_of (by first | rfl | simp)) BxTo_nil) (SlTo_cons (by first | exact .rd .d | exact Vw_int (by first | rfl | assumption | omega | (simp; done) | (simp; omega)) | exact Vw_c (by first | rfl | (simp; done) | simp_all) | exact .any) (SlTo_cons (Vw_refe rfl (by first | rfl | simp)) (SlTo_cons (by first | exact .rd (.ptr (srcFree rfl) rfl rfl rfl .d) | exact .rd .d) (SlTo_cons (by first | exact .rd .d | exact .any) (SlTo_cons (by first | exact .rd .d | exact .any) (SlTo_cons (by first | exact .rd .d | exact .any) (SlTo_cons (by first | exact .rd .d | exact .any) (SlTo_cons (by first | exact .rd .d | exact .any) SlTo_nil))))))))
          · skip
            exact ⟨Nat.zero_le _, by simp, by simp, by simp⟩
          rintro ⟨i, mt⟩ ⟨hj, ⟨hI2, hM2, hL2⟩⟩
          show AC _ _ _ _ _ (FS [16, 17, 18, 37, 38] _ [(39, i64 i), (7, .ref .one 0 0 (ints mt).length), (4, .d (.rp LC (injC u) []))]) [some ⟨3, .one, (ints mt).map V.d⟩]
          refine AC_seq fun K19 hK19 => ?_
          refine AC_region ?_
          refine AL_ev (Ev_lss rfl rfl) rfl ?_
          refine AL_nil ?_
          refine hK19 _ _ _ ?_
          refine AC_seq fun K20 hK20 => ?_
          refine AC_cond rfl (fun hc5 => ?_) (fun hc5 => ?_)
          · skip
            have hlt : i < (goalsIn u.b).1.length := by simpa using hc5
            obtain ⟨v, hu⟩ : ∃ x, (goalsIn u.b).1[i]? = some x := ⟨_, List.getElem?_eq_getElem hlt⟩
            have hu2 := injs_get hu
            have hdr := drop_get hu
            have hbg := goalsIn_bulk (List.mem_of_getElem? hu)
            have hsv := sz_bulk v
            have huv := uV_le v []
            simp only [List.length_nil] at huv
            rw [hdr] at hI2 hM2 hL2
            rw [List.all_cons] at hI2
            rw [metF] at hM2
            rw [szs] at hL2
            refine AC_skip ?_
            refine hK20 _ _ _ ?_
            refine AC_seq fun K21 hK21 => ?_
            refine AC_block ?_
            refine AC_seq fun K22 hK22 => ?_
            refine AC_region ?_
            first | refine AL_ev (Ev_ix_sl rfl rfl te41 ts45 (by omega) (by assumption)) rfl ?_ | refine AL_ev (Ev_ix_ref rfl rfl te41 ts45 (by omega) (by first | omega | (simp; omega))) rfl ?_
            first | refine AL_ev (Ev_load_ptr rfl rfl rfl rfl rfl rfl ts45 ta45 (by first | rfl | simp) (by intro h; cases h)) rfl ?_ | refine AL_ev (Ev_load_rp rfl rfl rfl ts45 ta45 (by first | rfl | simp) (by intro h; cases h)) rfl ?_
            refine AL_alloc zo45 _ rfl rfl ?_
            first | refine AL_store rfl (nf rfl) rfl rfl rfl rfl rfl rfl (by first | rfl | simp [Lay.len, Lay.lens]) ts45 rfl rfl ?_ | refine AL_store rfl (nf rfl) rfl rfl rfl hes rfl rfl (by first | rfl | simp [Lay.len, Lay.lens]) ts45 rfl rfl ?_
            refine AL_nil ?_
            refine hK22 _ _ _ ?_
            refine AC_seq fun K23 hK23 => ?_
            refine AC_seq fun K24 hK24 => ?_
            refine AC_region ?_
            first | refine AL_ev (Ev_load_ptr rfl rfl rfl rfl rfl rfl ts45 ta45 (by first | rfl | simp) (by intro h; cases h)) rfl ?_ | refine AL_ev (Ev_load_rp rfl rfl rfl ts45 ta45 (by first | rfl | simp) (by intro h; cases h)) rfl ?_
            refine AL_fcall0 hT rfl cl63 (c_predOf v (by omega)) rfl rfl ?_
            refine AL_ev (Ev_seql rfl rfl) rfl ?_
            refine AL_ev (Ev_move) rfl ?_
            refine AL_bool 46 rfl (fun hg6 => ?_) (fun hg6 => ?_)
            · skip
              refine AL_guard_f rfl rfl rfl rfl ?_
              refine AL_guard_f rfl rfl rfl rfl ?_
              refine AL_guard_f rfl rfl rfl rfl ?_
              refine AL_ev (Ev_pick rfl) rfl ?_
              refine AL_nil ?_
              refine hK24 _ _ _ ?_
              refine AC_cond_t rfl ?_
              refine AC_seq fun K25 hK25 => ?_
              refine AC_region ?_
              refine AL_ev (Ev_assign) rfl ?_
              refine AL_nil ?_
              refine hK25 _ _ _ ?_
              refine AC_ret ?_
              refine ret_ok hdm (.tmp rfl rfl .nil) (.cons .d .nil) ?_
              have hz : goalB v = false := by simp [goalB, of_decide_eq_true hg6]
              rw [flatDB, hI, hI2]
              simp [hz]
            · skip
              refine AL_guard_t rfl rfl rfl ?_
              first | refine AL_ev (Ev_load_ptr rfl rfl rfl rfl rfl rfl ts45 ta45 (by first | rfl | simp) (by intro h; cases h)) rfl ?_ | refine AL_ev (Ev_load_rp rfl rfl rfl ts45 ta45 (by first | rfl | simp) (by intro h; cases h)) rfl ?_
              refine AL_guard_t rfl rfl rfl ?_
              refine AL_fcall0 hT rfl cl88 (c_flatTerm v (by omega)) rfl rfl ?_
              refine AL_guard_t rfl rfl rfl ?_
              refine AL_ev (Ev_not rfl) rfl ?_
              refine AL_ev (Ev_pick rfl) rfl ?_
              refine AL_nil ?_
              refine hK24 _ _ _ ?_
              refine AC_cond rfl (fun hc7 => ?_) (fun hc7 => ?_)
              · skip
                refine AC_seq fun K26 hK26 => ?_
                refine AC_region ?_
                refine AL_ev (Ev_assign) rfl ?_
                refine AL_nil ?_
                refine hK26 _ _ _ ?_
                refine AC_ret ?_
                refine ret_ok hdm (.tmp rfl rfl .nil) (.cons .d .nil) ?_
                have hz : goalB v = false := by
                  have : flatT v = false := by simpa using hc7
                  simp [goalB, this]
                rw [flatDB, hI, hI2]
                simp [hz]
              · skip
                refine AC_skip ?_
                refine hK23 _ _ _ ?_
                refine AC_region ?_
                refine AL_ev (Ev_move) rfl ?_
                first | refine AL_ev (Ev_load_ptr rfl rfl rfl rfl rfl rfl ts45 ta45 (by first | rfl | simp) (by intro h; cases h)) rfl ?_ | refine AL_ev (Ev_load_rp rfl rfl rfl ts45 ta45 (by first | rfl | simp) (by intro h; cases h)) rfl ?_
                refine AL_fcall0 hT rfl cl89 (c_implVarsOf v (by omega)) rfl rfl ?_
                first | refine AL_append rfl rfl rfl te89 ts3 tz3 rfl tb3 (by decide) (by decide) rfl (by first | rfl | (simp; done) | (simp; omega)) (Src_sl rfl) (by simp only [lim]; first | omega | (simp; done) | (simp; omega)) _ rfl rfl ?_ | refine AL_append rfl rfl rfl te89 ts3 tz3 rfl tb3 (by decide) (by decide) rfl (by first | rfl | (simp; done) | (simp; omega)) (Src_ref rfl rfl rfl (by first | rfl | (simp; done) | (simp; omega))) (by simp only [lim]; first | omega | (simp; done) | (simp; omega)) _ rfl rfl ?_ | refine AL_append rfl rfl rfl te89 ts3 tz3 rfl tb3 (by decide) (by decide) rfl (by first | rfl | (simp; done) | (simp; omega)) (Src_nil rfl) (by simp only [lim]; first | omega | (simp; done) | (simp; omega)) _ rfl rfl ?_
                refine AL_ev (Ev_assign) rfl ?_
                refine AL_nil ?_
                refine hK21 _ _ _ ?_
                refine AC_region ?_
                first | refine AL_ev (Ev_add rfl rfl _ (wrap_id (by first | omega | (simp; omega)) (by first | omega | (simp; omega)))) rfl ?_ | refine AL_ev (Ev_add rfl rfl _ rfl) rfl ?_
                refine AL_ev (Ev_move) rfl ?_
                refine AL_nil ?_
                refine closeS (i + 1, mt ++ uV [] v) [some 2] rfl rfl (by show (goalsIn u.b).1.length - (i + 1) < (goalsIn u.b).1.length - i; omega) ⟨hlt, ?_⟩ (BxTo_some rfl rfl rfl rfl (by first | exact VwL_app (by first | rfl | simp [ints, strs] | simp [ints, strs, injs_map]) | exact VwL_dd (by first | rfl | simp [ints, strs] | simp [ints, strs, injs_map]) | exact VwL_of (by first | rfl | simp [ints, strs] | simp [ints, strs, injs_map])) BxTo_nil) (SlTo_cons (by first | exact .rd .d | exact Vw_int (by first | rfl | assumption | omega | (simp; done) | (simp; omega)) | exact Vw_c (by first | rfl | (simp; done) | simp_all) | exact .any) (SlTo_cons (Vw_refe rfl (by first | rfl | simp | (simp; omega))) (SlTo_cons (by first | exact .rd (.ptr (srcFree rfl) rfl rfl rfl .d) | exact .rd .d) (SlTo_cons (by first | exact .rd .d | exact .any) (SlTo_cons (by first | exact .rd .d | exact .any) (SlTo_cons (by first | exact .rd .d | exact .any) (SlTo_cons (by first | exact .rd .d | exact .any) (SlTo_cons (by first | exact .rd .d | exact .any) SlTo_nil))))))))
                have hz1 : ¬ predS v = cEq := of_decide_eq_false hg6
                have hz2 : flatT v = true := by simpa using hc7
                refine ⟨?_, by rw [hM2, List.append_assoc], by simp only [List.length_append]; omega⟩
                rw [hI2]
                simp [goalB, hz1, hz2]
          · skip
            have hj2 : i = (goalsIn u.b).1.length := by
              have : ¬ i < (goalsIn u.b).1.length := by simpa using hc5
              omega
            subst hj2
            refine AC_exit ?_
            refine hK17 _ _ _ ?_
            refine AC_seq fun K27 hK27 => ?_
            refine AC_region ?_
            first | refine AL_ev (Ev_fa_ptr rfl fa68_0 rfl rfl) rfl ?_ | refine AL_ev (Ev_fa_rp rfl fa68_0 rfl rfl) rfl ?_
            first | refine AL_ev (Ev_load_ptr rfl rfl rfl rfl rfl rfl ts45 ta45 (by first | rfl | simp) (by intro h; cases h)) rfl ?_ | refine AL_ev (Ev_load_rp rfl rfl rfl ts45 ta45 (by first | rfl | simp) (by intro h; cases h)) rfl ?_
            refine AL_fcall0 hT rfl cl89 (c_implVarsOf u.h (by omega)) rfl rfl ?_
            first | refine AL_lim (x := (Operand.tmp 58)) rfl fun hl4 => ?_ | refine AL_limB (x := (Operand.tmp 58)) rfl rfl (by first | rfl | (simp; done) | (simp; omega)) fun hl4 => ?_ | have hl4 := True.intro
            try simp only [injs_length, ints_length, strs_length, injCs_length, List.length_map] at hl4
            first | refine AL_ev (Ev_len_ints te89 rfl) rfl ?_ | refine AL_ev (Ev_len_sl te89 rfl) rfl ?_ | refine AL_ev (Ev_len_ref te89 rfl) rfl ?_ | refine AL_ev (Ev_len_nil te89 rfl) rfl ?_ | refine AL_ev (Ev_len_c te89 rfl) rfl ?_
            refine AL_ev (Ev_move) rfl ?_
            refine AL_nil ?_
            refine hK27 _ _ _ ?_
            refine AC_block ?_
            refine AC_loopS [16, 17, 18, 58, 59] (Nat) (fun i2 => [(60, i64 i2), (7, .d (.sl .one (ints mt)))]) (fun i2 => []) (fun st => (uV [] u.h).length - st) (fun i2 => i2 ≤ (uV [] u.h).length ∧ ((uV [] u.h).all fun n => decide (n ∈ mt)) = ((uV [] u.h).drop i2).all fun n => decide (n ∈ mt)) (0) ?_ ?_ ?_
            · skip
              exact enterS [] rfl rfl BxTo_nil (SlTo_cons (by first | exact .rd .d | exact Vw_int (by first | rfl | assumption | omega | (simp; done) | (simp; omega)) | exact Vw_c (by first | rfl | (simp; done) | simp_all) | exact .any) (SlTo_cons (by first | exact .rd .d | exact .rd (.ref (srcFree rfl) rfl rfl (by simp) (ReadsL_d _))) (SlTo_cons (by first | exact .rd .d | exact .any) (SlTo_cons (by first | exact .rd .d | exact .any) (SlTo_cons (by first | exact .rd .d | exact .any) (SlTo_cons (by first | exact .rd .d | exact .any) (SlTo_cons (by first | exact .rd .d | exact .any) SlTo_nil)))))))
            · skip
              exact ⟨Nat.zero_le _, by simp⟩
            rintro i2 ⟨hj, hI3⟩
            show AC _ _ _ _ _ (FS [16, 17, 18, 58, 59] _ [(60, i64 i2), (7, .d (.sl .one (ints mt)))]) []
            refine AC_seq fun K28 hK28 => ?_
            refine AC_region ?_
            refine AL_ev (Ev_lss rfl rfl) rfl ?_
            refine AL_nil ?_
            refine hK28 _ _ _ ?_
            refine AC_seq fun K29 hK29 => ?_
            refine AC_cond rfl (fun hc8 => ?_) (fun hc8 => ?_)
            · skip
              have hlt : i2 < (uV [] u.h).length := by simpa using hc8
              obtain ⟨nn, hu⟩ : ∃ x, (uV [] u.h)[i2]? = some x := ⟨_, List.getElem?_eq_getElem hlt⟩
              have hu2 := ints_get hu
              have hdr := drop_get hu
              rw [hdr, List.all_cons] at hI3
              refine AC_skip ?_
              refine hK29 _ _ _ ?_
              refine AC_seq fun K30 hK30 => ?_
              refine AC_block ?_
              refine AC_seq fun K31 hK31 => ?_
              refine AC_region ?_
              first | refine AL_ev (Ev_ix_sl rfl rfl te89 ts3 (by omega) (by assumption)) rfl ?_ | refine AL_ev (Ev_ix_ref rfl rfl te89 ts3 (by omega) (by first | omega | (simp; omega))) rfl ?_
              first | refine AL_ev (Ev_load_ptr rfl rfl rfl rfl rfl rfl ts3 ta3 rfl (fun _ => rfl)) rfl ?_ | refine AL_ev (Ev_load_rp rfl rfl rfl ts3 ta3 rfl (fun _ => rfl)) rfl ?_
              refine AL_ev (Ev_assign) rfl ?_
              refine AL_nil ?_
              refine hK31 _ _ _ ?_
              refine AC_seq fun K32 hK32 => ?_
              refine AC_region ?_
              refine AL_ev (Ev_move) rfl ?_
              refine AL_ev (Ev_move) rfl ?_
              refine AL_fcall0 hT rfl cl90 (c_contains mt nn) rfl rfl ?_
              refine AL_ev (Ev_not rfl) rfl ?_
              refine AL_nil ?_
              refine hK32 _ _ _ ?_
              refine AC_cond rfl (fun hc9 => ?_) (fun hc9 => ?_)
              · skip
                refine AC_seq fun K33 hK33 => ?_
                refine AC_region ?_
                refine AL_ev (Ev_assign) rfl ?_
                refine AL_nil ?_
                refine hK33 _ _ _ ?_
                refine AC_ret ?_
                refine ret_ok hdm (.tmp rfl rfl .nil) (.cons .d .nil) ?_
                rw [List.drop_length, metF, List.append_nil] at hM2
                have hz : ¬ nn ∈ mt := by simpa using hc9
                rw [flatDB, hI, hM2, hI3]
                simp [hz]
              · skip
                refine AC_skip ?_
                refine hK30 _ _ _ ?_
                refine AC_region ?_
                first | refine AL_ev (Ev_add rfl rfl _ (wrap_id (by first | omega | (simp; omega)) (by first | omega | (simp; omega)))) rfl ?_ | refine AL_ev (Ev_add rfl rfl _ rfl) rfl ?_
                refine AL_ev (Ev_move) rfl ?_
                refine AL_nil ?_
                refine closeS (i2 + 1) [] rfl rfl (by show (uV [] u.h).length - (i2 + 1) < (uV [] u.h).length - i2; omega) ⟨hlt, ?_⟩ BxTo_nil (SlTo_cons (by first | exact .rd .d | exact Vw_int (by first | rfl | assumption | omega | (simp; done) | (simp; omega)) | exact Vw_c (by first | rfl | (simp; done) | simp_all) | exact .any) (SlTo_cons (by first | exact .rd .d | exact .rd (.ref (srcFree rfl) rfl rfl (by simp) (ReadsL_d _))) (SlTo_cons (by first | exact .rd .d | exact .any) (SlTo_cons (by first | exact .rd .d | exact .any) (SlTo_cons (by first | exact .rd .d | exact .any) (SlTo_cons (by first | exact .rd .d | exact .any) (SlTo_cons (by first | exact .rd .d | exact .any) SlTo_nil)))))))
                have hz3 : nn ∈ mt := by simpa using hc9
                rw [hI3]
                simp [hz3]
            · skip
              have hj2 : i2 = (uV [] u.h).length := by
                have : ¬ i2 < (uV [] u.h).length := by simpa using hc8
                omega
              subst hj2
              refine AC_exit ?_
              refine hK9 _ _ _ ?_
              refine AC_region ?_
              first | refine AL_ev (Ev_add rfl rfl _ (wrap_id (by first | omega | (simp; omega)) (by first | omega | (simp; omega)))) rfl ?_ | refine AL_ev (Ev_add rfl rfl _ rfl) rfl ?_
              refine AL_ev (Ev_move) rfl ?_
              refine AL_nil ?_
              refine closeS (j + 1) [] rfl rfl (by show cs.length - (j + 1) < cs.length - j; omega) ⟨hlt, ?_⟩ BxTo_nil (SlTo_cons (by first | exact .rd .d | exact Vw_int (by first | rfl | assumption | omega | (simp; done) | (simp; omega)) | exact Vw_c (by first | rfl | (simp; done) | simp_all) | exact .any) (SlTo_cons (by first | exact .rd .d | exact .any) (SlTo_cons (by first | exact .rd .d | exact .any) SlTo_nil)))
              rw [List.drop_length, metF, List.append_nil] at hM2
              rw [List.drop_length] at hI2 hI3
              have hz1 : ((goalsIn u.b).1.length : Int) ≤ 2 := by simpa using hg3
              have hz2 : flatT u.h = true := by simpa using hc4
              rw [hI, hM2, hI2, hI3, hz2]
              simp [hz1]
    · skip
      have hj2 : j = cs.length := by
        have : ¬ j < cs.length := by simpa using hc2
        omega
      subst hj2
      rw [List.drop_length] at hI
      refine AC_exit ?_
      refine hK5 _ _ _ ?_
      refine AC_seq fun K34 hK34 => ?_
      refine AC_region ?_
      refine AL_ev (Ev_assign) rfl ?_
      refine AL_nil ?_
      refine hK34 _ _ _ ?_
      refine AC_ret ?_
      refine ret_ok hdm (.tmp rfl rfl .nil) (.cons .d .nil) ?_
      rw [flatDB, hI, hpl]
      simp

set_option maxHeartbeats 4000000 in
set_option maxRecDepth 4000 in
theorem c_l26Flat (c : Cl) (h1 : bulk c.h ≤ 1048576) (h2 : bulk c.b ≤ 1048576) : PCall Tryd.prog 87 [injC c] (· = [.c (.bool (flatC1 c))]) := by
  obtain ⟨h, b, f⟩ := c
  simp only at h1 h2
  have hsh := sz_bulk h
  have hsb := sz_bulk b
  have hgz := goalsIn_szs b
  obtain ⟨gl, hgl⟩ : ∃ gl, gl = (goalsIn b).1 := ⟨_, rfl⟩
  have hfc : flatC1 ⟨h, b, f⟩ = ((goalsIn b).2 && flatT h && decide ((gl.length : Int) ≤ 2) && gl.all goalB && (uV [] h).all fun n => decide (n ∈ uV [] b)) := by rw [hgl]; rfl
  refine PCall_of (n := 67) Tryd.func87 rfl rfl (Nat.le_of_ble_eq_true rfl) fun C hdm hT0 => ?_
  have hT := hT0
  refine AC_seq fun K1 hK1 => ?_
  refine AC_region ?_
  refine AL_box (Lay.st [(Lay.st [.one, .one, .one, .one]), (Lay.st [.one, .one, .one, .one]), .one]) (nf rfl) rfl (by first | rfl | simp [Lay.len, Lay.lens]) _ rfl rfl ?_
  refine AL_ev (Ev_assign) rfl ?_
  refine AL_nil ?_
  refine hK1 _ _ _ ?_
  refine AC_seq fun K2 hK2 => ?_
  refine AC_region ?_
  first | refine AL_ev (Ev_fa_ptr rfl fa68_1 rfl rfl) rfl ?_ | refine AL_ev (Ev_fa_rp rfl fa68_1 rfl rfl) rfl ?_
  first | refine AL_ev (Ev_load_ptr rfl rfl rfl rfl rfl rfl ts45 ta45 (by first | rfl | simp) (by intro h; cases h)) rfl ?_ | refine AL_ev (Ev_load_rp rfl rfl rfl ts45 ta45 (by first | rfl | simp) (by intro h; cases h)) rfl ?_
  refine AL_fcall0 hT rfl cl25 (hgl ▸ c_specGoalsIn b (by omega)) rfl rfl ?_
  refine AL_ev (Ev_move) rfl ?_
  refine AL_ev (Ev_extract rfl rfl) rfl ?_
  refine AL_ev (Ev_extract rfl rfl) rfl ?_
  refine AL_ev (Ev_assign) rfl ?_
  refine AL_ev (Ev_assign) rfl ?_
  refine AL_nil ?_
  refine hK2 _ _ _ ?_
  refine AC_seq fun K3 hK3 => ?_
  refine AC_seq fun K4 hK4 => ?_
  refine AC_region ?_
  refine AL_ev (Ev_move) rfl ?_
  refine AL_ev (Ev_not rfl) rfl ?_
  refine AL_ev (Ev_move) rfl ?_
  refine AL_bool 17 rfl (fun hg1 => ?_) (fun hg1 => ?_)
  · skip
    refine AL_guard_f rfl rfl rfl rfl ?_
    refine AL_guard_f rfl rfl rfl rfl ?_
    refine AL_guard_f rfl rfl rfl rfl ?_
    refine AL_guard_f rfl rfl rfl rfl ?_
    refine AL_ev (Ev_pick rfl) rfl ?_
    refine AL_ev (Ev_move) rfl ?_
    refine AL_guard_f rfl rfl rfl rfl ?_
    refine AL_guard_f rfl rfl rfl rfl ?_
    refine AL_guard_f rfl rfl rfl rfl ?_
    refine AL_ev (Ev_pick rfl) rfl ?_
    refine AL_nil ?_
    refine hK4 _ _ _ ?_
    refine AC_cond_t rfl ?_
    refine AC_seq fun K5 hK5 => ?_
    refine AC_region ?_
    refine AL_ev (Ev_assign) rfl ?_
    refine AL_nil ?_
    refine hK5 _ _ _ ?_
    refine AC_ret ?_
    refine ret_ok hdm (.tmp rfl rfl .nil) (.cons .d .nil) ?_
    rw [hfc, show (goalsIn b).2 = false by simpa using hg1]
    simp
  · skip
    refine AL_guard_t rfl rfl rfl ?_
    first | refine AL_ev (Ev_fa_ptr rfl fa68_0 rfl rfl) rfl ?_ | refine AL_ev (Ev_fa_rp rfl fa68_0 rfl rfl) rfl ?_
    refine AL_guard_t rfl rfl rfl ?_
    first | refine AL_ev (Ev_load_ptr rfl rfl rfl rfl rfl rfl ts45 ta45 (by first | rfl | simp) (by intro h; cases h)) rfl ?_ | refine AL_ev (Ev_load_rp rfl rfl rfl ts45 ta45 (by first | rfl | simp) (by intro h; cases h)) rfl ?_
    refine AL_guard_t rfl rfl rfl ?_
    refine AL_fcall0 hT rfl cl113 (c_specFlatTerm h (by omega)) rfl rfl ?_
    refine AL_guard_t rfl rfl rfl ?_
    refine AL_ev (Ev_not rfl) rfl ?_
    refine AL_ev (Ev_pick rfl) rfl ?_
    refine AL_ev (Ev_move) rfl ?_
    refine AL_bool 23 rfl (fun hg2 => ?_) (fun hg2 => ?_)
    · skip
      refine AL_guard_f rfl rfl rfl rfl ?_
      refine AL_guard_f rfl rfl rfl rfl ?_
      refine AL_guard_f rfl rfl rfl rfl ?_
      refine AL_ev (Ev_pick rfl) rfl ?_
      refine AL_nil ?_
      refine hK4 _ _ _ ?_
      refine AC_cond_t rfl ?_
      refine AC_seq fun K6 hK6 => ?_
      refine AC_region ?_
      refine AL_ev (Ev_assign) rfl ?_
      refine AL_nil ?_
      refine hK6 _ _ _ ?_
      refine AC_ret ?_
      refine ret_ok hdm (.tmp rfl rfl .nil) (.cons .d .nil) ?_
      rw [hfc, show flatT h = false by simpa using hg2]
      simp
    · skip
      refine AL_guard_t rfl rfl rfl ?_
      refine AL_ev (Ev_move) rfl ?_
      refine AL_guard_t rfl rfl rfl ?_
      first | refine AL_lim (x := (Operand.tmp 24)) rfl fun hl1 => ?_ | refine AL_limB (x := (Operand.tmp 24)) rfl rfl (by first | rfl | (simp; done) | (simp; omega)) fun hl1 => ?_ | have hl1 := True.intro
      try simp only [injs_length, ints_length, strs_length, injCs_length, List.length_map] at hl1
      first | refine AL_ev (Ev_len_injs te41 rfl) rfl ?_ | refine AL_ev (Ev_len_sl te41 rfl) rfl ?_ | refine AL_ev (Ev_len_ref te41 rfl) rfl ?_ | refine AL_ev (Ev_len_nil te41 rfl) rfl ?_ | refine AL_ev (Ev_len_c te41 rfl) rfl ?_
      refine AL_guard_t rfl rfl rfl ?_
      refine AL_ev (Ev_gtr rfl rfl) rfl ?_
      refine AL_ev (Ev_pick rfl) rfl ?_
      refine AL_nil ?_
      refine hK4 _ _ _ ?_
      refine AC_cond rfl (fun hc3 => ?_) (fun hc3 => ?_)
      · skip
        refine AC_seq fun K7 hK7 => ?_
        refine AC_region ?_
        refine AL_ev (Ev_assign) rfl ?_
        refine AL_nil ?_
        refine hK7 _ _ _ ?_
        refine AC_ret ?_
        refine ret_ok hdm (.tmp rfl rfl .nil) (.cons .d .nil) ?_
        have hz : ¬ (gl.length : Int) ≤ 2 := by simpa using hc3
        rw [hfc]
        simp [hz]
      · skip
        refine AC_skip ?_
        refine hK3 _ _ _ ?_
        refine AC_seq fun K8 hK8 => ?_
        refine AC_seq fun K9 hK9 => ?_
        refine AC_region ?_
        refine AL_ev (Ev_assign) rfl ?_
        refine AL_nil ?_
        refine hK9 _ _ _ ?_
        refine AC_block ?_
        refine AC_loopS [3] (Nat) (fun j => [(5, i64 j), (1, .d (.rp (Lay.st [(Lay.st [.one, .one, .one, .one]), (Lay.st [.one, .one, .one, .one]), .one]) (injC ⟨h, b, f⟩) []))]) (fun j => []) (fun st => gl.length - st) (fun j => j ≤ gl.length ∧ gl.all goalB = (gl.drop j).all goalB) (0) ?_ ?_ ?_
        · skip
          exact enterS [] rfl rfl BxTo_nil (SlTo_cons (by first | exact .rd .d | exact Vw_int (by first | rfl | assumption | omega | (simp; done) | (simp; omega)) | exact Vw_c (by first | rfl | (simp; done) | simp_all) | exact .any) (SlTo_cons (by first | exact .rd (.ptr (srcFree rfl) rfl rfl rfl .d) | exact .rd .d) (SlTo_cons (by first | exact .rd .d | exact .any) SlTo_nil)))
        · skip
          exact ⟨Nat.zero_le _, by simp⟩
        rintro j ⟨hj, hI⟩
        show AC _ _ _ _ _ (FS [3] _ [(5, i64 j), (1, .d (.rp (Lay.st [(Lay.st [.one, .one, .one, .one]), (Lay.st [.one, .one, .one, .one]), .one]) (injC ⟨h, b, f⟩) []))]) []
        refine AC_seq fun K10 hK10 => ?_
        refine AC_seq fun K11 hK11 => ?_
        refine AC_region ?_
        refine AL_ev (Ev_move) rfl ?_
        refine AL_ev (Ev_move) rfl ?_
        first | refine AL_lim (x := (Operand.tmp 29)) rfl fun hl2 => ?_ | refine AL_limB (x := (Operand.tmp 29)) rfl rfl (by first | rfl | (simp; done) | (simp; omega)) fun hl2 => ?_ | have hl2 := True.intro
        try simp only [injs_length, ints_length, strs_length, injCs_length, List.length_map] at hl2
        first | refine AL_ev (Ev_len_injs te41 rfl) rfl ?_ | refine AL_ev (Ev_len_sl te41 rfl) rfl ?_ | refine AL_ev (Ev_len_ref te41 rfl) rfl ?_ | refine AL_ev (Ev_len_nil te41 rfl) rfl ?_ | refine AL_ev (Ev_len_c te41 rfl) rfl ?_
        refine AL_ev (Ev_lss rfl rfl) rfl ?_
        refine AL_nil ?_
        refine hK11 _ _ _ ?_
        refine AC_cond rfl (fun hc4 => ?_) (fun hc4 => ?_)
        · skip
          have hlt : j < gl.length := by simpa using hc4
          obtain ⟨v, hu⟩ : ∃ x, gl[j]? = some x := ⟨_, List.getElem?_eq_getElem hlt⟩
          have hu2 := injs_get hu
          have hdr := drop_get hu
          have hbg := goalsIn_bulk (hgl ▸ List.mem_of_getElem? hu)
          rw [hdr, List.all_cons] at hI
          refine AC_skip ?_
          refine hK10 _ _ _ ?_
          refine AC_seq fun K12 hK12 => ?_
          refine AC_block ?_
          refine AC_seq fun K13 hK13 => ?_
          refine AC_region ?_
          refine AL_ev (Ev_move) rfl ?_
          refine AL_ev (Ev_move) rfl ?_
          first | refine AL_ev (Ev_ix_sl rfl rfl te41 ts45 (by omega) (by assumption)) rfl ?_ | refine AL_ev (Ev_ix_ref rfl rfl te41 ts45 (by omega) (by first | omega | (simp; omega))) rfl ?_
          first | refine AL_ev (Ev_load_ptr rfl rfl rfl rfl rfl rfl ts45 ta45 (by first | rfl | simp) (by intro h; cases h)) rfl ?_ | refine AL_ev (Ev_load_rp rfl rfl rfl ts45 ta45 (by first | rfl | simp) (by intro h; cases h)) rfl ?_
          refine AL_fcall0 hT rfl cl113 (c_specFlatTerm v (by omega)) rfl rfl ?_
          refine AL_ev (Ev_not rfl) rfl ?_
          refine AL_ev (Ev_move) rfl ?_
          refine AL_bool 40 rfl (fun hg5 => ?_) (fun hg5 => ?_)
          · skip
            refine AL_guard_f rfl rfl rfl rfl ?_
            refine AL_guard_f rfl rfl rfl rfl ?_
            refine AL_guard_f rfl rfl rfl rfl ?_
            refine AL_guard_f rfl rfl rfl rfl ?_
            refine AL_guard_f rfl rfl rfl rfl ?_
            refine AL_guard_f rfl rfl rfl rfl ?_
            refine AL_ev (Ev_pick rfl) rfl ?_
            refine AL_nil ?_
            refine hK13 _ _ _ ?_
            refine AC_cond_t rfl ?_
            refine AC_seq fun K14 hK14 => ?_
            refine AC_region ?_
            refine AL_ev (Ev_assign) rfl ?_
            refine AL_nil ?_
            refine hK14 _ _ _ ?_
            refine AC_ret ?_
            refine ret_ok hdm (.tmp rfl rfl .nil) (.cons .d .nil) ?_
            have hz : goalB v = false := by
              have : flatT v = false := by simpa using hg5
              simp [goalB, this]
            rw [hfc, hI]
            simp [hz]
          · skip
            refine AL_guard_t rfl rfl rfl ?_
            refine AL_ev (Ev_move) rfl ?_
            refine AL_guard_t rfl rfl rfl ?_
            refine AL_ev (Ev_move) rfl ?_
            refine AL_guard_t rfl rfl rfl ?_
            first | refine AL_ev (Ev_ix_sl rfl rfl te41 ts45 (by omega) (by assumption)) rfl ?_ | refine AL_ev (Ev_ix_ref rfl rfl te41 ts45 (by omega) (by first | omega | (simp; omega))) rfl ?_
            refine AL_guard_t rfl rfl rfl ?_
            first | refine AL_ev (Ev_load_ptr rfl rfl rfl rfl rfl rfl ts45 ta45 (by first | rfl | simp) (by intro h; cases h)) rfl ?_ | refine AL_ev (Ev_load_rp rfl rfl rfl ts45 ta45 (by first | rfl | simp) (by intro h; cases h)) rfl ?_
            refine AL_guard_t rfl rfl rfl ?_
            refine AL_fcall0 hT rfl cl60 (c_specPredOf v (by omega)) rfl rfl ?_
            refine AL_guard_t rfl rfl rfl ?_
            refine AL_ev (Ev_seql rfl rfl) rfl ?_
            refine AL_ev (Ev_pick rfl) rfl ?_
            refine AL_nil ?_
            refine hK13 _ _ _ ?_
            refine AC_cond rfl (fun hc6 => ?_) (fun hc6 => ?_)
            · skip
              refine AC_seq fun K15 hK15 => ?_
              refine AC_region ?_
              refine AL_ev (Ev_assign) rfl ?_
              refine AL_nil ?_
              refine hK15 _ _ _ ?_
              refine AC_ret ?_
              refine ret_ok hdm (.tmp rfl rfl .nil) (.cons .d .nil) ?_
              have hz : goalB v = false := by simp [goalB, of_decide_eq_true hc6]
              rw [hfc, hI]
              simp [hz]
            · skip
              refine AC_skip ?_
              refine hK12 _ _ _ ?_
              refine AC_region ?_
              refine AL_ev (Ev_move) rfl ?_
              first | refine AL_ev (Ev_add rfl rfl _ (wrap_id (by first | omega | (simp; omega)) (by first | omega | (simp; omega)))) rfl ?_ | refine AL_ev (Ev_add rfl rfl _ rfl) rfl ?_
              refine AL_ev (Ev_assign) rfl ?_
              refine AL_nil ?_
              refine closeS (j + 1) [] rfl rfl (by show gl.length - (j + 1) < gl.length - j; omega) ⟨hlt, ?_⟩ BxTo_nil (SlTo_cons (by first | exact .rd .d | exact Vw_int (by first | rfl | assumption | omega | (simp; done) | (simp; omega)) | exact Vw_c (by first | rfl | (simp; done) | simp_all) | exact .any) (SlTo_cons (by first | exact .rd (.ptr (srcFree rfl) rfl rfl rfl .d) | exact .rd .d) (SlTo_cons (by first | exact .rd .d | exact .any) SlTo_nil)))
              have hz1 : ¬ predS v = cEq := of_decide_eq_false hc6
              have hz2 : flatT v = true := by simpa using hg5
              rw [hI]
              simp [goalB, hz1, hz2]
        · skip
          have hj2 : j = gl.length := by
            have : ¬ j < gl.length := by simpa using hc4
            omega
          subst hj2
          rw [List.drop_length] at hI
          refine AC_exit ?_
          refine hK8 _ _ _ ?_
          refine AC_seq fun K16 hK16 => ?_
          refine AC_region ?_
          first | refine AL_ev (Ev_fa_ptr rfl fa68_1 rfl rfl) rfl ?_ | refine AL_ev (Ev_fa_rp rfl fa68_1 rfl rfl) rfl ?_
          first | refine AL_ev (Ev_load_ptr rfl rfl rfl rfl rfl rfl ts45 ta45 (by first | rfl | simp) (by intro h; cases h)) rfl ?_ | refine AL_ev (Ev_load_rp rfl rfl rfl ts45 ta45 (by first | rfl | simp) (by intro h; cases h)) rfl ?_
          refine AL_fcall0 hT rfl cl114 (c_varsOf b (by omega)) rfl rfl ?_
          refine AL_ev (Ev_assign) rfl ?_
          refine AL_nil ?_
          refine hK16 _ _ _ ?_
          refine AC_seq fun K17 hK17 => ?_
          refine AC_region ?_
          first | refine AL_ev (Ev_fa_ptr rfl fa68_0 rfl rfl) rfl ?_ | refine AL_ev (Ev_fa_rp rfl fa68_0 rfl rfl) rfl ?_
          first | refine AL_ev (Ev_load_ptr rfl rfl rfl rfl rfl rfl ts45 ta45 (by first | rfl | simp) (by intro h; cases h)) rfl ?_ | refine AL_ev (Ev_load_rp rfl rfl rfl ts45 ta45 (by first | rfl | simp) (by intro h; cases h)) rfl ?_
          refine AL_fcall0 hT rfl cl114 (c_varsOf h (by omega)) rfl rfl ?_
          refine AL_ev (Ev_assign) rfl ?_
          refine AL_nil ?_
          refine hK17 _ _ _ ?_
          refine AC_seq fun K18 hK18 => ?_
          refine AC_seq fun K19 hK19 => ?_
          refine AC_region ?_
          refine AL_ev (Ev_assign) rfl ?_
          refine AL_nil ?_
          refine hK19 _ _ _ ?_
          refine AC_block ?_
          refine AC_loopS [6, 7] (Nat) (fun i => [(8, i64 i)]) (fun i => []) (fun st => (uV [] h).length - st) (fun i => i ≤ (uV [] h).length ∧ ((uV [] h).all fun n => decide (n ∈ uV [] b)) = ((uV [] h).drop i).all fun n => decide (n ∈ uV [] b)) (0) ?_ ?_ ?_
          · skip
            exact enterS [] rfl rfl BxTo_nil (SlTo_cons (by first | exact .rd .d | exact Vw_int (by first | rfl | assumption | omega | (simp; done) | (simp; omega)) | exact Vw_c (by first | rfl | (simp; done) | simp_all) | exact .any) (SlTo_cons (by first | exact .rd .d | exact .any) (SlTo_cons (by first | exact .rd .d | exact .any) SlTo_nil)))
          · skip
            exact ⟨Nat.zero_le _, by simp⟩
          rintro i ⟨hj, hI2⟩
          show AC _ _ _ _ _ (FS [6, 7] _ [(8, i64 i)]) []
          refine AC_seq fun K20 hK20 => ?_
          refine AC_seq fun K21 hK21 => ?_
          refine AC_region ?_
          refine AL_ev (Ev_move) rfl ?_
          refine AL_ev (Ev_move) rfl ?_
          first | refine AL_lim (x := (Operand.tmp 55)) rfl fun hl3 => ?_ | refine AL_limB (x := (Operand.tmp 55)) rfl rfl (by first | rfl | (simp; done) | (simp; omega)) fun hl3 => ?_ | have hl3 := True.intro
          try simp only [injs_length, ints_length, strs_length, injCs_length, List.length_map] at hl3
          first | refine AL_ev (Ev_len_ints te89 rfl) rfl ?_ | refine AL_ev (Ev_len_sl te89 rfl) rfl ?_ | refine AL_ev (Ev_len_ref te89 rfl) rfl ?_ | refine AL_ev (Ev_len_nil te89 rfl) rfl ?_ | refine AL_ev (Ev_len_c te89 rfl) rfl ?_
          refine AL_ev (Ev_lss rfl rfl) rfl ?_
          refine AL_nil ?_
          refine hK21 _ _ _ ?_
          refine AC_cond rfl (fun hc7 => ?_) (fun hc7 => ?_)
          · skip
            have hlt : i < (uV [] h).length := by simpa using hc7
            obtain ⟨nn, hu⟩ : ∃ x, (uV [] h)[i]? = some x := ⟨_, List.getElem?_eq_getElem hlt⟩
            have hu2 := ints_get hu
            have hdr := drop_get hu
            rw [hdr, List.all_cons] at hI2
            refine AC_skip ?_
            refine hK20 _ _ _ ?_
            refine AC_seq fun K22 hK22 => ?_
            refine AC_block ?_
            refine AC_seq fun K23 hK23 => ?_
            refine AC_region ?_
            refine AL_ev (Ev_move) rfl ?_
            refine AL_ev (Ev_move) rfl ?_
            refine AL_ev (Ev_move) rfl ?_
            first | refine AL_ev (Ev_ix_sl rfl rfl te89 ts3 (by omega) (by assumption)) rfl ?_ | refine AL_ev (Ev_ix_ref rfl rfl te89 ts3 (by omega) (by first | omega | (simp; omega))) rfl ?_
            first | refine AL_ev (Ev_load_ptr rfl rfl rfl rfl rfl rfl ts3 ta3 rfl (fun _ => rfl)) rfl ?_ | refine AL_ev (Ev_load_rp rfl rfl rfl ts3 ta3 rfl (fun _ => rfl)) rfl ?_
            refine AL_fcall0 hT rfl cl115 (c_l03Has (uV [] b) nn) rfl rfl ?_
            refine AL_ev (Ev_not rfl) rfl ?_
            refine AL_nil ?_
            refine hK23 _ _ _ ?_
            refine AC_cond rfl (fun hc8 => ?_) (fun hc8 => ?_)
            · skip
              refine AC_seq fun K24 hK24 => ?_
              refine AC_region ?_
              refine AL_ev (Ev_assign) rfl ?_
              refine AL_nil ?_
              refine hK24 _ _ _ ?_
              refine AC_ret ?_
              refine ret_ok hdm (.tmp rfl rfl .nil) (.cons .d .nil) ?_
              have hz : ¬ nn ∈ uV [] b := by simpa using hc8
              rw [hfc, hI2]
              simp [hz]
            · skip
              refine AC_skip ?_
              refine hK22 _ _ _ ?_
              refine AC_region ?_
              refine AL_ev (Ev_move) rfl ?_
              first | refine AL_ev (Ev_add rfl rfl _ (wrap_id (by first | omega | (simp; omega)) (by first | omega | (simp; omega)))) rfl ?_ | refine AL_ev (Ev_add rfl rfl _ rfl) rfl ?_
              refine AL_ev (Ev_assign) rfl ?_
              refine AL_nil ?_
              refine closeS (i + 1) [] rfl rfl (by show (uV [] h).length - (i + 1) < (uV [] h).length - i; omega) ⟨hlt, ?_⟩ BxTo_nil (SlTo_cons (by first | exact .rd .d | exact Vw_int (by first | rfl | assumption | omega | (simp; done) | (simp; omega)) | exact Vw_c (by first | rfl | (simp; done) | simp_all) | exact .any) (SlTo_cons (by first | exact .rd .d | exact .any) (SlTo_cons (by first | exact .rd .d | exact .any) SlTo_nil)))
              have hz3 : nn ∈ uV [] b := by simpa using hc8
              rw [hI2]
              simp [hz3]
          · skip
            have hj2 : i = (uV [] h).length := by
              have : ¬ i < (uV [] h).length := by simpa using hc7
              omega
            subst hj2
            refine AC_exit ?_
            refine hK18 _ _ _ ?_
            refine AC_seq fun K25 hK25 => ?_
            refine AC_region ?_
            refine AL_ev (Ev_assign) rfl ?_
            refine AL_nil ?_
            refine hK25 _ _ _ ?_
            refine AC_ret ?_
            refine ret_ok hdm (.tmp rfl rfl .nil) (.cons .d .nil) ?_
            rw [List.drop_length] at hI2
            have hz1 : (goalsIn b).2 = true := by simpa using hg1
            have hz2 : flatT h = true := by simpa using hg2
            have hz3 : (gl.length : Int) ≤ 2 := by simpa using hc3
            rw [hfc, hI, hI2, hz1, hz2]
            simp [hz3]

set_option maxHeartbeats 1000000 in
set_option maxRecDepth 4000 in
theorem c_specFlatDb (d : Dbt) (hb : bulkD d ≤ 1048576) : PCall Tryd.prog 46 [injD d] (· = [.c (.bool (flatDB d))]) := by
  obtain ⟨cs, op⟩ := d
  obtain ⟨hnc, hbc, hno, hbo⟩ := bulkD_bd hb
  refine PCall_of (n := 20) Tryd.func46 rfl rfl (Nat.le_of_ble_eq_true rfl) fun C hdm hT0 => ?_
  have hT := hT0
  refine AC_seq fun K1 hK1 => ?_
  refine AC_region ?_
  refine AL_box (Lay.st [.one, .one]) (nf rfl) rfl (by first | rfl | simp [Lay.len, Lay.lens]) _ rfl rfl ?_
  refine AL_ev (Ev_assign) rfl ?_
  refine AL_nil ?_
  refine hK1 _ _ _ ?_
  refine AC_seq fun K2 hK2 => ?_
  refine AC_seq fun K3 hK3 => ?_
  refine AC_region ?_
  refine AL_ev (Ev_assign) rfl ?_
  refine AL_nil ?_
  refine hK3 _ _ _ ?_
  refine AC_block ?_
  refine AC_loopS [] (Nat) (fun j => [(3, i64 j), (1, .d (.rp (Lay.st [.one, .one]) (injD ⟨cs, op⟩) []))]) (fun j => []) (fun st => cs.length - st) (fun j => j ≤ cs.length ∧ cs.all flatC1 = (cs.drop j).all flatC1) (0) ?_ ?_ ?_
  · skip
    exact enterS [] rfl rfl BxTo_nil (SlTo_cons (by first | exact .rd .d | exact Vw_int (by first | rfl | assumption | omega | (simp; done) | (simp; omega)) | exact Vw_c (by first | rfl | (simp; done) | simp_all) | exact .any) (SlTo_cons (by first | exact .rd (.ptr (srcFree rfl) rfl rfl rfl .d) | exact .rd .d) SlTo_nil))
  · skip
    exact ⟨Nat.zero_le _, by simp⟩
  rintro j ⟨hj, hI⟩
  show AC _ _ _ _ _ (FS [] _ [(3, i64 j), (1, .d (.rp (Lay.st [.one, .one]) (injD ⟨cs, op⟩) []))]) []
  refine AC_seq fun K4 hK4 => ?_
  refine AC_seq fun K5 hK5 => ?_
  refine AC_region ?_
  refine AL_ev (Ev_move) rfl ?_
  first | refine AL_ev (Ev_fa_ptr rfl fa30_0 rfl rfl) rfl ?_ | refine AL_ev (Ev_fa_rp rfl fa30_0 rfl rfl) rfl ?_
  first | refine AL_ev (Ev_load_ptr rfl rfl rfl rfl rfl rfl ts28 ta28 rfl (fun _ => rfl)) rfl ?_ | refine AL_ev (Ev_load_rp rfl rfl rfl ts28 ta28 rfl (fun _ => rfl)) rfl ?_
  first | refine AL_lim (x := (Operand.tmp 6)) rfl fun hl1 => ?_ | refine AL_limB (x := (Operand.tmp 6)) rfl rfl (by first | rfl | (simp; done) | (simp; omega)) fun hl1 => ?_ | have hl1 := True.intro
  try simp only [injs_length, ints_length, strs_length, injCs_length, List.length_map] at hl1
  first | refine AL_ev (Ev_len_injCs te28 rfl) rfl ?_ | refine AL_ev (Ev_len_sl te28 rfl) rfl ?_ | refine AL_ev (Ev_len_ref te28 rfl) rfl ?_ | refine AL_ev (Ev_len_nil te28 rfl) rfl ?_ | refine AL_ev (Ev_len_c te28 rfl) rfl ?_
  refine AL_ev (Ev_lss rfl rfl) rfl ?_
  refine AL_nil ?_
  refine hK5 _ _ _ ?_
  refine AC_cond rfl (fun hc1 => ?_) (fun hc1 => ?_)
  · skip
    have hlt : j < cs.length := by simpa using hc1
    obtain ⟨u, hu⟩ : ∃ x, cs[j]? = some x := ⟨_, List.getElem?_eq_getElem hlt⟩
    have hu2 := injCs_get hu
    have hdr := drop_get hu
    obtain ⟨hbu, hbv, _⟩ := bulkCs_bd (List.mem_of_getElem? hu) hbc
    refine AC_skip ?_
    refine hK4 _ _ _ ?_
    refine AC_seq fun K6 hK6 => ?_
    refine AC_block ?_
    refine AC_seq fun K7 hK7 => ?_
    refine AC_region ?_
    first | refine AL_ev (Ev_fa_ptr rfl fa30_0 rfl rfl) rfl ?_ | refine AL_ev (Ev_fa_rp rfl fa30_0 rfl rfl) rfl ?_
    first | refine AL_ev (Ev_load_ptr rfl rfl rfl rfl rfl rfl ts28 ta28 rfl (fun _ => rfl)) rfl ?_ | refine AL_ev (Ev_load_rp rfl rfl rfl ts28 ta28 rfl (fun _ => rfl)) rfl ?_
    refine AL_ev (Ev_move) rfl ?_
    first | refine AL_ev (Ev_ix_sl rfl rfl te28 ts68 (by omega) (by assumption)) rfl ?_ | refine AL_ev (Ev_ix_ref rfl rfl te28 ts68 (by omega) (by first | omega | (simp; omega))) rfl ?_
    first | refine AL_ev (Ev_load_ptr rfl rfl rfl rfl rfl rfl ts68 ta68 (by first | rfl | simp) (by intro h; cases h)) rfl ?_ | refine AL_ev (Ev_load_rp rfl rfl rfl ts68 ta68 (by first | rfl | simp) (by intro h; cases h)) rfl ?_
    refine AL_fcall0 hT rfl cl87 (c_l26Flat u (by omega) (by omega)) rfl rfl ?_
    refine AL_ev (Ev_not rfl) rfl ?_
    refine AL_nil ?_
    refine hK7 _ _ _ ?_
    refine AC_cond rfl (fun hc2 => ?_) (fun hc2 => ?_)
    · skip
      refine AC_seq fun K8 hK8 => ?_
      refine AC_region ?_
      refine AL_ev (Ev_assign) rfl ?_
      refine AL_nil ?_
      refine hK8 _ _ _ ?_
      refine AC_ret ?_
      refine ret_ok hdm (.tmp rfl rfl .nil) (.cons .d .nil) ?_
      rw [flatDB]
      try rw [hI]
      try rw [hdr]
      simp_all
    · skip
      refine AC_skip ?_
      refine hK6 _ _ _ ?_
      refine AC_region ?_
      refine AL_ev (Ev_move) rfl ?_
      first | refine AL_ev (Ev_add rfl rfl _ (wrap_id (by first | omega | (simp; omega)) (by first | omega | (simp; omega)))) rfl ?_ | refine AL_ev (Ev_add rfl rfl _ rfl) rfl ?_
      refine AL_ev (Ev_assign) rfl ?_
      refine AL_nil ?_
      refine closeS (j + 1) [] rfl rfl (by show cs.length - (j + 1) < cs.length - j; omega) ⟨hlt, ?_⟩ BxTo_nil (SlTo_cons (by first | exact .rd .d | exact Vw_int (by first | rfl | assumption | omega | (simp; done) | (simp; omega)) | exact Vw_c (by first | rfl | (simp; done) | simp_all) | exact .any) (SlTo_cons (by first | exact .rd (.ptr (srcFree rfl) rfl rfl rfl .d) | exact .rd .d) SlTo_nil))
      rw [hI, hdr, List.all_cons]
      simp_all
  · skip
    have hj2 : j = cs.length := by
      have : ¬ j < cs.length := by simpa using hc1
      omega
    subst hj2
    rw [List.drop_length] at hI
    refine AC_exit ?_
    refine hK2 _ _ _ ?_
    refine AC_seq fun K9 hK9 => ?_
    refine AC_region ?_
    first | refine AL_ev (Ev_load_ptr rfl rfl rfl rfl rfl rfl ts30 ta30 (by first | rfl | simp) (by intro h; cases h)) rfl ?_ | refine AL_ev (Ev_load_rp rfl rfl rfl ts30 ta30 (by first | rfl | simp) (by intro h; cases h)) rfl ?_
    refine AL_fcall0 hT rfl cl40 (c_specPlainDb ⟨cs, op⟩ (by omega)) rfl rfl ?_
    refine AL_ev (Ev_assign) rfl ?_
    refine AL_nil ?_
    refine hK9 _ _ _ ?_
    refine AC_ret ?_
    refine ret_ok hdm (.tmp rfl rfl .nil) (.cons .d .nil) ?_
    rw [flatDB]
    try rw [hI]
    try rw [hdr]
    simp_all

set_option maxHeartbeats 1000000 in
set_option maxRecDepth 4000 in
theorem c_lawFlatDb (d : Dbt) (hb : bulkD d ≤ 1048576) : PCall Tryd.prog 10 [injD d] (· = [.c (.bool true)]) := by
  have hcs := cntCs_nn d.cs
  have hcb := cntCs_bulk d.cs
  obtain ⟨hb1, hb2, hb3, hb4⟩ := bulkD_bd (cs := d.cs) (op := d.op) (B := 1048576) hb
  refine PCall_of (n := 27) Tryd.func10 rfl rfl (Nat.le_of_ble_eq_true rfl) fun C hdm hT0 => ?_
  have hT := hT0
  have hX0 := CExt.refl C
  refine AC_seq fun K1 hK1 => ?_
  refine AC_region ?_
  refine AL_box (Lay.st [.one, .one]) (nf rfl) rfl (by first | rfl | simp [Lay.len, Lay.lens]) _ rfl rfl ?_
  refine AL_ev (Ev_assign) rfl ?_
  refine AL_nil ?_
  refine hK1 _ _ _ ?_
  refine AC_seq fun K2 hK2 => ?_
  refine AC_region ?_
  refine AL_ev (Ev_assign) rfl ?_
  refine AL_nil ?_
  refine hK2 _ _ _ ?_
  refine AC_seq fun K3 hK3 => ?_
  refine AC_region ?_
  first | refine AL_ev (Ev_load_ptr rfl rfl rfl rfl rfl rfl ts25 ta25 (by first | rfl | simp) (by intro h; cases h)) rfl ?_ | refine AL_ev (Ev_load_rp rfl rfl rfl ts25 ta25 (by first | rfl | simp) (by intro h; cases h)) rfl ?_
  refine AL_ev (Ev_move) rfl ?_
  refine AL_fcall0 hT rfl cl15 (c_szDb d 1048576 hb (by omega)) rfl rfl ?_
  refine AL_ev (Ev_assign) rfl ?_
  refine AL_nil ?_
  refine hK3 _ _ _ ?_
  refine AC_seq fun K4 hK4 => ?_
  refine AC_seq fun K5 hK5 => ?_
  refine AC_region ?_
  refine AL_ev (Ev_move) rfl ?_
  refine AL_ev (Ev_lss rfl rfl) rfl ?_
  refine AL_nil ?_
  refine hK5 _ _ _ ?_
  refine AC_cond rfl (fun hc1 => ?_) (fun hc1 => ?_)
  · skip
    have : (1048576 : Int) - (bulkD d) < 0 := by simpa using hc1
    omega
  · skip
    refine AC_skip ?_
    refine hK4 _ _ _ ?_
    refine AC_seq fun K6 hK6 => ?_
    refine AC_region ?_
    first | refine AL_ev (Ev_load_ptr rfl rfl rfl rfl rfl rfl ts25 ta25 (by first | rfl | simp) (by intro h; cases h)) rfl ?_ | refine AL_ev (Ev_load_rp rfl rfl rfl ts25 ta25 (by first | rfl | simp) (by intro h; cases h)) rfl ?_
    refine AL_fcall0 hT rfl cl17 ((c_toDb d).pcall) rfl rfl ?_
    refine AL_fcall0 hT rfl cl46 (c_specFlatDb d (by omega)) rfl rfl ?_
    refine AL_ev (Ev_assign) rfl ?_
    refine AL_nil ?_
    refine hK6 _ _ _ ?_
    refine AC_seq fun K7 hK7 => ?_
    refine AC_region ?_
    first | refine AL_ev (Ev_load_ptr rfl rfl rfl rfl rfl rfl ts25 ta25 (by first | rfl | simp) (by intro h; cases h)) rfl ?_ | refine AL_ev (Ev_load_rp rfl rfl rfl ts25 ta25 (by first | rfl | simp) (by intro h; cases h)) rfl ?_
    refine AL_ocall0 hT LD rfl cl17 (c_toDb d) rfl (injD_lenL d) (injD_agL d) rfl fun C1 cs1 K1 hg1 => ?_
    have hX1 := hX0.trans hg1.ext
    have hT := hT.ext hg1.ext
    have hx := hg1.has
    refine AL_alloc zo30 _ rfl rfl ?_
    first | refine AL_store rfl (nf rfl) rfl rfl rfl rfl rfl rfl (by first | rfl | simp [Lay.len, Lay.lens]) ts30 rfl rfl ?_ | refine AL_store rfl (nf rfl) rfl rfl rfl hes rfl rfl (by first | rfl | simp [Lay.len, Lay.lens]) ts30 rfl rfl ?_
    refine AL_nil ?_
    refine hK7 _ _ _ ?_
    refine AC_seq fun K8 hK8 => ?_
    refine AC_region ?_
    first | refine AL_ev (Ev_load_ptr rfl rfl rfl rfl rfl rfl ts30 ta30 (by first | rfl | simp) (by intro h; cases h)) rfl ?_ | refine AL_ev (Ev_load_rp rfl rfl rfl ts30 ta30 (by first | rfl | simp) (by intro h; cases h)) rfl ?_
    refine AL_qcall hT rfl cl47 (c_flatDb d (by omega)) (.cons (.raw (l := LD) (cs := cs1) hx hg1.len (injD_agL d)) .nil) rfl ?_
    refine AL_ev (Ev_assign) rfl ?_
    refine AL_nil ?_
    refine hK8 _ _ _ ?_
    refine AC_seq fun K9 hK9 => ?_
    refine AC_seq fun K10 hK10 => ?_
    refine AC_region ?_
    refine AL_ev (Ev_move) rfl ?_
    refine AL_ev (Ev_move) rfl ?_
    refine AL_ev (Ev_bneq tbool4 rfl rfl) rfl ?_
    refine AL_nil ?_
    refine hK10 _ _ _ ?_
    refine AC_cond rfl (fun hc2 => ?_) (fun hc2 => ?_)
    · skip
      exact absurd hc2 (by simp)
    · skip
      refine AC_skip ?_
      refine hK9 _ _ _ ?_
      refine AC_seq fun K11 hK11 => ?_
      refine AC_seq fun K12 hK12 => ?_
      refine AC_draw hT follows [0, 1, 2, 3, 4] (by kernel_rfl) ?_
      first | refine DT_ev rfl (EA_load_ptr rfl rfl rfl rfl rfl rfl ts30 ta30 (by first | rfl | simp) (by intro h; cases h)) rfl ?_ | refine DT_ev rfl (EA_load_rp rfl rfl rfl ts30 ta30 (by first | rfl | simp) (by intro h; cases h)) rfl ?_
      first | refine DT_ev rfl (EA_load_ptr rfl rfl rfl rfl rfl rfl ts25 ta25 (by first | rfl | simp) (by intro h; cases h)) rfl ?_ | refine DT_ev rfl (EA_load_rp rfl rfl rfl ts25 ta25 (by first | rfl | simp) (by intro h; cases h)) rfl ?_
      refine DT_fcall0 rfl rfl cl17 ((c_toDb d).pcall) rfl rfl ?_
      refine DT_qcall hT rfl rfl cl20 (c_eqDb d) (fun L2 => .cons (.raw (l := LD) (cs := cs1) hx hg1.len (injD_agL d)) (.cons (.rd .d) .nil)) rfl (by kernel_rfl) ?_
      refine DT_ev rfl (EA_not rfl) rfl ?_
      refine DTi.nil ?_
      refine hK12 _ _ _ ?_
      refine AC_cond rfl (fun hc3 => ?_) (fun hc3 => ?_)
      · skip
        exact absurd hc3 (by simp)
      · skip
        refine AC_skip ?_
        refine hK11 _ _ _ ?_
        refine AC_seq fun K13 hK13 => ?_
        refine AC_region ?_
        refine AL_ev (Ev_assign) rfl ?_
        refine AL_nil ?_
        refine hK13 _ _ _ ?_
        refine AC_ret ?_
        exact ret_okX hX1 hdm (.tmp rfl rfl .nil) (.cons .d .nil) rfl

end Go.Proofs.YtleahipnknainaaDoor
