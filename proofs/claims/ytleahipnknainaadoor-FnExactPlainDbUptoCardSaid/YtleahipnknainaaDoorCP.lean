/- Contracts of functions. -/
import Derived.Test.YtleahipnknainaaDoorMt
import Derived.Test.YtleahipnknainaaDoorOk
import Derived.Test.YtleahipnknainaaDoorWn
import Derived.Test.YtleahipnknainaaDoorEng27
import Derived.Test.YtleahipnknainaaDoorOw
import Derived.Test.YtleahipnknainaaDoorGd
import Derived.Test.YtleahipnknainaaDoorProg
import Derived.KernelRfl
import Derived.Test.YtleahipnknainaaDoorCA
import Derived.Test.YtleahipnknainaaDoorCB
import Derived.Test.YtleahipnknainaaDoorCC
import Derived.Test.YtleahipnknainaaDoorCF
import Derived.Test.YtleahipnknainaaDoorCG
import Derived.Test.YtleahipnknainaaDoorCH
import Derived.Test.YtleahipnknainaaDoorCI
import Derived.Test.YtleahipnknainaaDoorCO
set_option linter.unusedVariables false
set_option linter.unusedSimpArgs false
namespace Go.Proofs.YtleahipnknainaaDoor
open Go.Eng

theorem cl107 : Callable Tryd.prog 107 := Callable_of Tryd.func107 (by kernel_rfl) (by kernel_rfl)
theorem cl108 : Callable Tryd.prog 108 := Callable_of Tryd.func108 (by kernel_rfl) (by kernel_rfl)
theorem cl124 : Callable Tryd.prog 124 := Callable_of Tryd.func124 (by kernel_rfl) (by kernel_rfl)
theorem cl15 : Callable Tryd.prog 15 := Callable_of Tryd.func15 (by kernel_rfl) (by kernel_rfl)
theorem cl17 : Callable Tryd.prog 17 := Callable_of Tryd.func17 (by kernel_rfl) (by kernel_rfl)
theorem cl20 : Callable Tryd.prog 20 := Callable_of Tryd.func20 (by kernel_rfl) (by kernel_rfl)
theorem cl25 : Callable Tryd.prog 25 := Callable_of Tryd.func25 (by kernel_rfl) (by kernel_rfl)
theorem cl40 : Callable Tryd.prog 40 := Callable_of Tryd.func40 (by kernel_rfl) (by kernel_rfl)
theorem cl41 : Callable Tryd.prog 41 := Callable_of Tryd.func41 (by kernel_rfl) (by kernel_rfl)
theorem cl82 : Callable Tryd.prog 82 := Callable_of Tryd.func82 (by kernel_rfl) (by kernel_rfl)
theorem cl83 : Callable Tryd.prog 83 := Callable_of Tryd.func83 (by kernel_rfl) (by kernel_rfl)
theorem cl84 : Callable Tryd.prog 84 := Callable_of Tryd.func84 (by kernel_rfl) (by kernel_rfl)
theorem ta25 : tyAgg Tryd.prog 25 = some true := by kernel_rfl
theorem tbool4 : tyBool Tryd.prog 4 = true := by kernel_rfl
theorem ts25 : tySize Tryd.prog 25 = some 2 := by kernel_rfl

set_option maxHeartbeats 1000000 in
set_option maxRecDepth 4000 in
theorem c_headOk (t : T) (hb : bulk t ≤ 1099511627776) : PCall Tryd.prog 108 [inj t] (· = [.c (.bool (headB t))]) := by
  refine PCall_of (n := 12) Tryd.func108 rfl rfl (Nat.le_of_ble_eq_true rfl) fun C hdm hT0 => ?_
  have hT := hT0
  refine AC_seq fun K1 hK1 => ?_
  refine AC_region ?_
  refine AL_box (Lay.st [.one, .one, .one, .one]) (nf rfl) rfl (by first | rfl | simp [Lay.len, Lay.lens]) _ rfl rfl ?_
  refine AL_ev (Ev_assign) rfl ?_
  refine AL_nil ?_
  refine hK1 _ _ _ ?_
  refine AC_seq fun K2 hK2 => ?_
  refine AC_region ?_
  first | refine AL_ev (Ev_load_ptr rfl rfl rfl rfl rfl rfl ts45 ta45 (by first | rfl | simp) (by intro h; cases h)) rfl ?_ | refine AL_ev (Ev_load_rp rfl rfl rfl ts45 ta45 (by first | rfl | simp) (by intro h; cases h)) rfl ?_
  refine AL_fcall0 hT rfl cl63 (c_predOf t hb) rfl rfl ?_
  refine AL_ev (Ev_sneq rfl rfl) rfl ?_
  refine AL_ev (Ev_move) rfl ?_
  refine AL_bool 6 rfl (fun hg1 => ?_) (fun hg1 => ?_)
  · skip
    refine AL_guard_t rfl rfl rfl ?_
    first | refine AL_ev (Ev_load_ptr rfl rfl rfl rfl rfl rfl ts45 ta45 (by first | rfl | simp) (by intro h; cases h)) rfl ?_ | refine AL_ev (Ev_load_rp rfl rfl rfl ts45 ta45 (by first | rfl | simp) (by intro h; cases h)) rfl ?_
    refine AL_guard_t rfl rfl rfl ?_
    refine AL_fcall0 hT rfl cl63 (c_predOf t hb) rfl rfl ?_
    refine AL_guard_t rfl rfl rfl ?_
    refine AL_fcall0 hT rfl cl72 (c_control (predS t)) rfl rfl ?_
    refine AL_guard_t rfl rfl rfl ?_
    refine AL_ev (Ev_not rfl) rfl ?_
    refine AL_ev (Ev_pick rfl) rfl ?_
    refine AL_ev (Ev_assign) rfl ?_
    refine AL_nil ?_
    refine hK2 _ _ _ ?_
    refine AC_ret ?_
    refine ret_ok hdm (.tmp rfl rfl .nil) (.cons .d .nil) ?_
    simp_all [headB]
  · skip
    refine AL_guard_f rfl rfl rfl rfl ?_
    refine AL_guard_f rfl rfl rfl rfl ?_
    refine AL_guard_f rfl rfl rfl rfl ?_
    refine AL_guard_f rfl rfl rfl rfl ?_
    refine AL_ev (Ev_pick rfl) rfl ?_
    refine AL_ev (Ev_assign) rfl ?_
    refine AL_nil ?_
    refine hK2 _ _ _ ?_
    refine AC_ret ?_
    refine ret_ok hdm (.tmp rfl rfl .nil) (.cons .d .nil) ?_
    simp_all [headB]

set_option maxHeartbeats 1000000 in
set_option maxRecDepth 4000 in
theorem c_l08Head (t : T) (hb : bulk t ≤ 1099511627776) : PCall Tryd.prog 124 [inj t] (· = [.c (.bool (headB t))]) := by
  refine PCall_of (n := 13) Tryd.func124 rfl rfl (Nat.le_of_ble_eq_true rfl) fun C hdm hT0 => ?_
  have hT := hT0
  refine AC_seq fun K1 hK1 => ?_
  refine AC_region ?_
  refine AL_box (Lay.st [.one, .one, .one, .one]) (nf rfl) rfl (by first | rfl | simp [Lay.len, Lay.lens]) _ rfl rfl ?_
  refine AL_ev (Ev_assign) rfl ?_
  refine AL_nil ?_
  refine hK1 _ _ _ ?_
  refine AC_seq fun K2 hK2 => ?_
  refine AC_region ?_
  first | refine AL_ev (Ev_load_ptr rfl rfl rfl rfl rfl rfl ts45 ta45 (by first | rfl | simp) (by intro h; cases h)) rfl ?_ | refine AL_ev (Ev_load_rp rfl rfl rfl ts45 ta45 (by first | rfl | simp) (by intro h; cases h)) rfl ?_
  refine AL_fcall0 hT rfl cl60 (c_specPredOf t hb) rfl rfl ?_
  refine AL_ev (Ev_assign) rfl ?_
  refine AL_nil ?_
  refine hK2 _ _ _ ?_
  refine AC_seq fun K3 hK3 => ?_
  refine AC_region ?_
  refine AL_ev (Ev_move) rfl ?_
  refine AL_ev (Ev_sneq rfl rfl) rfl ?_
  refine AL_ev (Ev_move) rfl ?_
  refine AL_bool 8 rfl (fun hg1 => ?_) (fun hg1 => ?_)
  · skip
    refine AL_guard_t rfl rfl rfl ?_
    refine AL_ev (Ev_move) rfl ?_
    refine AL_guard_t rfl rfl rfl ?_
    refine AL_fcall0 hT rfl cl105 (c_specControl (predS t)) rfl rfl ?_
    refine AL_guard_t rfl rfl rfl ?_
    refine AL_ev (Ev_not rfl) rfl ?_
    refine AL_ev (Ev_pick rfl) rfl ?_
    refine AL_ev (Ev_assign) rfl ?_
    refine AL_nil ?_
    refine hK3 _ _ _ ?_
    refine AC_ret ?_
    refine ret_ok hdm (.tmp rfl rfl .nil) (.cons .d .nil) ?_
    simp_all [headB]
  · skip
    refine AL_guard_f rfl rfl rfl rfl ?_
    refine AL_guard_f rfl rfl rfl rfl ?_
    refine AL_guard_f rfl rfl rfl rfl ?_
    refine AL_ev (Ev_pick rfl) rfl ?_
    refine AL_ev (Ev_assign) rfl ?_
    refine AL_nil ?_
    refine hK3 _ _ _ ?_
    refine AC_ret ?_
    refine ret_ok hdm (.tmp rfl rfl .nil) (.cons .d .nil) ?_
    simp_all [headB]

set_option maxHeartbeats 1000000 in
set_option maxRecDepth 4000 in
theorem c_l08Clause (c : Cl) (h1 : bulk c.h ≤ 1099511627776) (h2 : bulk c.b ≤ 1099511627776) : PCall Tryd.prog 107 [injC c] (· = [.c (.bool (clB c))]) := by
  obtain ⟨h, b, f⟩ := c
  refine PCall_of (n := 16) Tryd.func107 rfl rfl (Nat.le_of_ble_eq_true rfl) fun C hdm hT0 => ?_
  have hT := hT0
  refine AC_seq fun K1 hK1 => ?_
  refine AC_region ?_
  refine AL_box (Lay.st [(Lay.st [.one, .one, .one, .one]), (Lay.st [.one, .one, .one, .one]), .one]) (nf rfl) rfl (by first | rfl | simp [Lay.len, Lay.lens]) _ rfl rfl ?_
  refine AL_ev (Ev_assign) rfl ?_
  refine AL_nil ?_
  refine hK1 _ _ _ ?_
  refine AC_seq fun K2 hK2 => ?_
  refine AC_region ?_
  first | refine AL_ev (Ev_fa_ptr rfl fa68_0 rfl rfl) rfl ?_ | refine AL_ev (Ev_fa_rp rfl fa68_0 rfl rfl) rfl ?_
  first | refine AL_ev (Ev_load_ptr rfl rfl rfl rfl rfl rfl ts45 ta45 (by first | rfl | simp) (by intro h; cases h)) rfl ?_ | refine AL_ev (Ev_load_rp rfl rfl rfl ts45 ta45 (by first | rfl | simp) (by intro h; cases h)) rfl ?_
  refine AL_fcall0 hT rfl cl74 (c_specTermOk h h1) rfl rfl ?_
  refine AL_ev (Ev_move) rfl ?_
  refine AL_bool 6 rfl (fun hg1 => ?_) (fun hg1 => ?_)
  · skip
    refine AL_guard_t rfl rfl rfl ?_
    first | refine AL_ev (Ev_fa_ptr rfl fa68_1 rfl rfl) rfl ?_ | refine AL_ev (Ev_fa_rp rfl fa68_1 rfl rfl) rfl ?_
    refine AL_guard_t rfl rfl rfl ?_
    first | refine AL_ev (Ev_load_ptr rfl rfl rfl rfl rfl rfl ts45 ta45 (by first | rfl | simp) (by intro h; cases h)) rfl ?_ | refine AL_ev (Ev_load_rp rfl rfl rfl ts45 ta45 (by first | rfl | simp) (by intro h; cases h)) rfl ?_
    refine AL_guard_t rfl rfl rfl ?_
    refine AL_fcall0 hT rfl cl74 (c_specTermOk b h2) rfl rfl ?_
    refine AL_ev (Ev_pick rfl) rfl ?_
    refine AL_ev (Ev_move) rfl ?_
    refine AL_bool 11 rfl (fun hg2 => ?_) (fun hg2 => ?_)
    · skip
      refine AL_guard_t rfl rfl rfl ?_
      first | refine AL_ev (Ev_fa_ptr rfl fa68_0 rfl rfl) rfl ?_ | refine AL_ev (Ev_fa_rp rfl fa68_0 rfl rfl) rfl ?_
      refine AL_guard_t rfl rfl rfl ?_
      first | refine AL_ev (Ev_load_ptr rfl rfl rfl rfl rfl rfl ts45 ta45 (by first | rfl | simp) (by intro h; cases h)) rfl ?_ | refine AL_ev (Ev_load_rp rfl rfl rfl ts45 ta45 (by first | rfl | simp) (by intro h; cases h)) rfl ?_
      refine AL_guard_t rfl rfl rfl ?_
      refine AL_fcall0 hT rfl cl124 (c_l08Head h h1) rfl rfl ?_
      refine AL_ev (Ev_pick rfl) rfl ?_
      refine AL_ev (Ev_assign) rfl ?_
      refine AL_nil ?_
      refine hK2 _ _ _ ?_
      refine AC_ret ?_
      refine ret_ok hdm (.tmp rfl rfl .nil) (.cons .d .nil) ?_
      simp_all [clB]
    · skip
      refine AL_guard_f rfl rfl rfl rfl ?_
      refine AL_guard_f rfl rfl rfl rfl ?_
      refine AL_guard_f rfl rfl rfl rfl ?_
      refine AL_ev (Ev_pick rfl) rfl ?_
      refine AL_ev (Ev_assign) rfl ?_
      refine AL_nil ?_
      refine hK2 _ _ _ ?_
      refine AC_ret ?_
      refine ret_ok hdm (.tmp rfl rfl .nil) (.cons .d .nil) ?_
      simp_all [clB]
  · skip
    refine AL_guard_f rfl rfl rfl rfl ?_
    refine AL_guard_f rfl rfl rfl rfl ?_
    refine AL_guard_f rfl rfl rfl rfl ?_
    refine AL_ev (Ev_pick rfl) rfl ?_
    refine AL_ev (Ev_move) rfl ?_
    refine AL_guard_f rfl rfl rfl rfl ?_
    refine AL_guard_f rfl rfl rfl rfl ?_
    refine AL_guard_f rfl rfl rfl rfl ?_
    refine AL_ev (Ev_pick rfl) rfl ?_
    refine AL_ev (Ev_assign) rfl ?_
    refine AL_nil ?_
    refine hK2 _ _ _ ?_
    refine AC_ret ?_
    refine ret_ok hdm (.tmp rfl rfl .nil) (.cons .d .nil) ?_
    simp_all [clB]

set_option maxHeartbeats 1000000 in
set_option maxRecDepth 4000 in
theorem c_dbOk (d : Dbt) (hb : bulkD d ≤ 1099511627775) : PCall Tryd.prog 83 [injD d] (· = [.c (.bool (dbB d))]) := by
  obtain ⟨cs, op⟩ := d
  obtain ⟨hnc, hbc, hno, hbo⟩ := bulkD_bd hb
  refine PCall_of (n := 39) Tryd.func83 rfl rfl (Nat.le_of_ble_eq_true rfl) fun C hdm hT0 => ?_
  have hT := hT0
  refine AC_seq fun K1 hK1 => ?_
  refine AC_region ?_
  refine AL_box (Lay.st [.one, .one]) (nf rfl) rfl (by first | rfl | simp [Lay.len, Lay.lens]) _ rfl rfl ?_
  refine AL_ev (Ev_assign) rfl ?_
  refine AL_nil ?_
  refine hK1 _ _ _ ?_
  refine AC_seq fun K2 hK2 => ?_
  refine AC_seq fun K3 hK3 => ?_
  refine AC_region ?_
  first | refine AL_ev (Ev_fa_ptr rfl fa30_0 rfl rfl) rfl ?_ | refine AL_ev (Ev_fa_rp rfl fa30_0 rfl rfl) rfl ?_
  first | refine AL_ev (Ev_load_ptr rfl rfl rfl rfl rfl rfl ts28 ta28 rfl (fun _ => rfl)) rfl ?_ | refine AL_ev (Ev_load_rp rfl rfl rfl ts28 ta28 rfl (fun _ => rfl)) rfl ?_
  first | refine AL_lim (x := (Operand.tmp 6)) rfl fun hl1 => ?_ | refine AL_limB (x := (Operand.tmp 6)) rfl rfl (by first | rfl | (simp; done) | (simp; omega)) fun hl1 => ?_ | have hl1 := True.intro
  try simp only [injs_length, ints_length, strs_length, injCs_length, List.length_map] at hl1
  first | refine AL_ev (Ev_len_injCs te28 rfl) rfl ?_ | refine AL_ev (Ev_len_sl te28 rfl) rfl ?_ | refine AL_ev (Ev_len_ref te28 rfl) rfl ?_ | refine AL_ev (Ev_len_nil te28 rfl) rfl ?_ | refine AL_ev (Ev_len_c te28 rfl) rfl ?_
  refine AL_ev (Ev_move) rfl ?_
  refine AL_nil ?_
  refine hK3 _ _ _ ?_
  refine AC_block ?_
  refine AC_loopS [6, 7] (Nat) (fun j => [(8, i64 j), (1, .d (.rp (Lay.st [.one, .one]) (injD ⟨cs, op⟩) []))]) (fun j => []) (fun st => cs.length - st) (fun j => j ≤ cs.length ∧ cs.all clB = (cs.drop j).all clB) (0) ?_ ?_ ?_
  · skip
    exact enterS [] rfl rfl BxTo_nil (SlTo_cons (by first | exact .rd .d | exact Vw_int (by first | rfl | assumption | omega | (simp; done) | (simp; omega)) | exact Vw_c (by first | rfl | (simp; done) | simp_all) | exact .any) (SlTo_cons (by first | exact .rd (.ptr (srcFree rfl) rfl rfl rfl .d) | exact .rd .d) (SlTo_cons (by first | exact .rd .d | exact .any) (SlTo_cons (by first | exact .rd .d | exact .any) SlTo_nil))))
  · skip
    exact ⟨Nat.zero_le _, by simp⟩
  rintro j ⟨hj, hI⟩
  show AC _ _ _ _ _ (FS [6, 7] _ [(8, i64 j), (1, .d (.rp (Lay.st [.one, .one]) (injD ⟨cs, op⟩) []))]) []
  refine AC_seq fun K4 hK4 => ?_
  refine AC_region ?_
  refine AL_ev (Ev_lss rfl rfl) rfl ?_
  refine AL_nil ?_
  refine hK4 _ _ _ ?_
  refine AC_seq fun K5 hK5 => ?_
  refine AC_cond rfl (fun hc1 => ?_) (fun hc1 => ?_)
  · skip
    have hlt : j < cs.length := by simpa using hc1
    obtain ⟨u, hu⟩ : ∃ x, cs[j]? = some x := ⟨_, List.getElem?_eq_getElem hlt⟩
    have hu2 := injCs_get hu
    have hdr := drop_get hu
    obtain ⟨hbu, hbv, _⟩ := bulkCs_bd (List.mem_of_getElem? hu) hbc
    refine AC_skip ?_
    refine hK5 _ _ _ ?_
    refine AC_seq fun K6 hK6 => ?_
    refine AC_block ?_
    refine AC_seq fun K7 hK7 => ?_
    refine AC_region ?_
    first | refine AL_ev (Ev_ix_sl rfl rfl te28 ts68 (by omega) (by assumption)) rfl ?_ | refine AL_ev (Ev_ix_ref rfl rfl te28 ts68 (by omega) (by first | omega | (simp; omega))) rfl ?_
    first | refine AL_ev (Ev_load_ptr rfl rfl rfl rfl rfl rfl ts68 ta68 (by first | rfl | simp) (by intro h; cases h)) rfl ?_ | refine AL_ev (Ev_load_rp rfl rfl rfl ts68 ta68 (by first | rfl | simp) (by intro h; cases h)) rfl ?_
    refine AL_alloc zo68 _ rfl rfl ?_
    first | refine AL_store rfl (nf rfl) rfl rfl rfl rfl rfl rfl (by first | rfl | simp [Lay.len, Lay.lens]) ts68 rfl rfl ?_ | refine AL_store rfl (nf rfl) rfl rfl rfl hes rfl rfl (by first | rfl | simp [Lay.len, Lay.lens]) ts68 rfl rfl ?_
    refine AL_nil ?_
    refine hK7 _ _ _ ?_
    refine AC_seq fun K8 hK8 => ?_
    refine AC_region ?_
    first | refine AL_ev (Ev_fa_ptr rfl fa68_0 rfl rfl) rfl ?_ | refine AL_ev (Ev_fa_rp rfl fa68_0 rfl rfl) rfl ?_
    first | refine AL_ev (Ev_load_ptr rfl rfl rfl rfl rfl rfl ts45 ta45 (by first | rfl | simp) (by intro h; cases h)) rfl ?_ | refine AL_ev (Ev_load_rp rfl rfl rfl ts45 ta45 (by first | rfl | simp) (by intro h; cases h)) rfl ?_
    refine AL_fcall0 hT rfl cl71 (c_termOk u.h (by omega)) rfl rfl ?_
    refine AL_ev (Ev_not rfl) rfl ?_
    refine AL_ev (Ev_move) rfl ?_
    refine AL_bool 16 rfl (fun hg2 => ?_) (fun hg2 => ?_)
    · skip
      refine AL_guard_f rfl rfl rfl rfl ?_
      refine AL_guard_f rfl rfl rfl rfl ?_
      refine AL_guard_f rfl rfl rfl rfl ?_
      refine AL_guard_f rfl rfl rfl rfl ?_
      refine AL_ev (Ev_pick rfl) rfl ?_
      refine AL_ev (Ev_move) rfl ?_
      refine AL_guard_f rfl rfl rfl rfl ?_
      refine AL_guard_f rfl rfl rfl rfl ?_
      refine AL_guard_f rfl rfl rfl rfl ?_
      refine AL_guard_f rfl rfl rfl rfl ?_
      refine AL_ev (Ev_pick rfl) rfl ?_
      refine AL_nil ?_
      refine hK8 _ _ _ ?_
      refine AC_cond_t rfl ?_
      refine AC_seq fun K9 hK9 => ?_
      refine AC_region ?_
      refine AL_ev (Ev_assign) rfl ?_
      refine AL_nil ?_
      refine hK9 _ _ _ ?_
      refine AC_ret ?_
      refine ret_ok hdm (.tmp rfl rfl .nil) (.cons .d .nil) ?_
      rw [dbB]
      try rw [hI]
      try rw [hdr]
      simp_all [clB]
      try omega
    · skip
      refine AL_guard_t rfl rfl rfl ?_
      first | refine AL_ev (Ev_fa_ptr rfl fa68_1 rfl rfl) rfl ?_ | refine AL_ev (Ev_fa_rp rfl fa68_1 rfl rfl) rfl ?_
      refine AL_guard_t rfl rfl rfl ?_
      first | refine AL_ev (Ev_load_ptr rfl rfl rfl rfl rfl rfl ts45 ta45 (by first | rfl | simp) (by intro h; cases h)) rfl ?_ | refine AL_ev (Ev_load_rp rfl rfl rfl ts45 ta45 (by first | rfl | simp) (by intro h; cases h)) rfl ?_
      refine AL_guard_t rfl rfl rfl ?_
      refine AL_fcall0 hT rfl cl71 (c_termOk u.b (by omega)) rfl rfl ?_
      refine AL_guard_t rfl rfl rfl ?_
      refine AL_ev (Ev_not rfl) rfl ?_
      refine AL_ev (Ev_pick rfl) rfl ?_
      refine AL_ev (Ev_move) rfl ?_
      refine AL_bool 22 rfl (fun hg3 => ?_) (fun hg3 => ?_)
      · skip
        refine AL_guard_f rfl rfl rfl rfl ?_
        refine AL_guard_f rfl rfl rfl rfl ?_
        refine AL_guard_f rfl rfl rfl rfl ?_
        refine AL_guard_f rfl rfl rfl rfl ?_
        refine AL_ev (Ev_pick rfl) rfl ?_
        refine AL_nil ?_
        refine hK8 _ _ _ ?_
        refine AC_cond_t rfl ?_
        refine AC_seq fun K10 hK10 => ?_
        refine AC_region ?_
        refine AL_ev (Ev_assign) rfl ?_
        refine AL_nil ?_
        refine hK10 _ _ _ ?_
        refine AC_ret ?_
        refine ret_ok hdm (.tmp rfl rfl .nil) (.cons .d .nil) ?_
        rw [dbB]
        try rw [hI]
        try rw [hdr]
        simp_all [clB]
        try omega
      · skip
        refine AL_guard_t rfl rfl rfl ?_
        first | refine AL_ev (Ev_fa_ptr rfl fa68_0 rfl rfl) rfl ?_ | refine AL_ev (Ev_fa_rp rfl fa68_0 rfl rfl) rfl ?_
        refine AL_guard_t rfl rfl rfl ?_
        first | refine AL_ev (Ev_load_ptr rfl rfl rfl rfl rfl rfl ts45 ta45 (by first | rfl | simp) (by intro h; cases h)) rfl ?_ | refine AL_ev (Ev_load_rp rfl rfl rfl ts45 ta45 (by first | rfl | simp) (by intro h; cases h)) rfl ?_
        refine AL_guard_t rfl rfl rfl ?_
        refine AL_fcall0 hT rfl cl108 (c_headOk u.h (by omega)) rfl rfl ?_
        refine AL_guard_t rfl rfl rfl ?_
        refine AL_ev (Ev_not rfl) rfl ?_
        refine AL_ev (Ev_pick rfl) rfl ?_
        refine AL_nil ?_
        refine hK8 _ _ _ ?_
        refine AC_cond rfl (fun hc4 => ?_) (fun hc4 => ?_)
        · skip
          refine AC_seq fun K11 hK11 => ?_
          refine AC_region ?_
          refine AL_ev (Ev_assign) rfl ?_
          refine AL_nil ?_
          refine hK11 _ _ _ ?_
          refine AC_ret ?_
          refine ret_ok hdm (.tmp rfl rfl .nil) (.cons .d .nil) ?_
          rw [dbB]
          try rw [hI]
          try rw [hdr]
          simp_all [clB]
          try omega
        · skip
          refine AC_skip ?_
          refine hK6 _ _ _ ?_
          refine AC_region ?_
          first | refine AL_ev (Ev_add rfl rfl _ (wrap_id (by first | omega | (simp; omega)) (by first | omega | (simp; omega)))) rfl ?_ | refine AL_ev (Ev_add rfl rfl _ rfl) rfl ?_
          refine AL_ev (Ev_move) rfl ?_
          refine AL_nil ?_
          refine closeS (j + 1) [] rfl rfl (by show cs.length - (j + 1) < cs.length - j; omega) ⟨hlt, ?_⟩ BxTo_nil (SlTo_cons (by first | exact .rd .d | exact Vw_int (by first | rfl | assumption | omega | (simp; done) | (simp; omega)) | exact Vw_c (by first | rfl | (simp; done) | simp_all) | exact .any) (SlTo_cons (by first | exact .rd (.ptr (srcFree rfl) rfl rfl rfl .d) | exact .rd .d) (SlTo_cons (by first | exact .rd .d | exact .any) (SlTo_cons (by first | exact .rd .d | exact .any) SlTo_nil))))
          rw [hI, hdr, List.all_cons]
          simp_all [clB]
  · skip
    have hj2 : j = cs.length := by
      have : ¬ j < cs.length := by simpa using hc1
      omega
    subst hj2
    rw [List.drop_length] at hI
    refine AC_exit ?_
    refine hK2 _ _ _ ?_
    refine AC_seq fun K12 hK12 => ?_
    refine AC_region ?_
    first | refine AL_ev (Ev_fa_ptr rfl fa30_0 rfl rfl) rfl ?_ | refine AL_ev (Ev_fa_rp rfl fa30_0 rfl rfl) rfl ?_
    first | refine AL_ev (Ev_load_ptr rfl rfl rfl rfl rfl rfl ts28 ta28 rfl (fun _ => rfl)) rfl ?_ | refine AL_ev (Ev_load_rp rfl rfl rfl ts28 ta28 rfl (fun _ => rfl)) rfl ?_
    first | refine AL_lim (x := (Operand.tmp 30)) rfl fun hl2 => ?_ | refine AL_limB (x := (Operand.tmp 30)) rfl rfl (by first | rfl | (simp; done) | (simp; omega)) fun hl2 => ?_ | have hl2 := True.intro
    try simp only [injs_length, ints_length, strs_length, injCs_length, List.length_map] at hl2
    first | refine AL_ev (Ev_len_injCs te28 rfl) rfl ?_ | refine AL_ev (Ev_len_sl te28 rfl) rfl ?_ | refine AL_ev (Ev_len_ref te28 rfl) rfl ?_ | refine AL_ev (Ev_len_nil te28 rfl) rfl ?_ | refine AL_ev (Ev_len_c te28 rfl) rfl ?_
    refine AL_ev (Ev_leq rfl rfl) rfl ?_
    refine AL_ev (Ev_move) rfl ?_
    refine AL_bool 33 rfl (fun hg5 => ?_) (fun hg5 => ?_)
    · skip
      refine AL_guard_t rfl rfl rfl ?_
      first | refine AL_ev (Ev_fa_ptr rfl fa30_1 rfl rfl) rfl ?_ | refine AL_ev (Ev_fa_rp rfl fa30_1 rfl rfl) rfl ?_
      refine AL_guard_t rfl rfl rfl ?_
      first | refine AL_ev (Ev_load_ptr rfl rfl rfl rfl rfl rfl ts23 ta23 rfl (fun _ => rfl)) rfl ?_ | refine AL_ev (Ev_load_rp rfl rfl rfl ts23 ta23 rfl (fun _ => rfl)) rfl ?_
      refine AL_guard_t rfl rfl rfl ?_
      first | refine AL_lim (x := (Operand.tmp 35)) rfl fun hl3 => ?_ | refine AL_limB (x := (Operand.tmp 35)) rfl rfl (by first | rfl | (simp; done) | (simp; omega)) fun hl3 => ?_ | have hl3 := True.intro
      try simp only [injs_length, ints_length, strs_length, injCs_length, List.length_map] at hl3
      first | refine AL_ev (Ev_len_strs te23 rfl) rfl ?_ | refine AL_ev (Ev_len_sl te23 rfl) rfl ?_ | refine AL_ev (Ev_len_ref te23 rfl) rfl ?_ | refine AL_ev (Ev_len_nil te23 rfl) rfl ?_ | refine AL_ev (Ev_len_c te23 rfl) rfl ?_
      refine AL_guard_t rfl rfl rfl ?_
      refine AL_ev (Ev_leq rfl rfl) rfl ?_
      refine AL_ev (Ev_pick rfl) rfl ?_
      refine AL_ev (Ev_assign) rfl ?_
      refine AL_nil ?_
      refine hK12 _ _ _ ?_
      refine AC_ret ?_
      refine ret_ok hdm (.tmp rfl rfl .nil) (.cons .d .nil) ?_
      rw [dbB]
      try rw [hI]
      try rw [hdr]
      simp_all [clB]
      try omega
    · skip
      refine AL_guard_f rfl rfl rfl rfl ?_
      refine AL_guard_f rfl rfl rfl rfl ?_
      refine AL_guard_f rfl rfl rfl rfl ?_
      refine AL_guard_f rfl rfl rfl rfl ?_
      refine AL_ev (Ev_pick rfl) rfl ?_
      refine AL_ev (Ev_assign) rfl ?_
      refine AL_nil ?_
      refine hK12 _ _ _ ?_
      refine AC_ret ?_
      refine ret_ok hdm (.tmp rfl rfl .nil) (.cons .d .nil) ?_
      rw [dbB]
      try rw [hI]
      try rw [hdr]
      simp_all [clB]
      try omega

set_option maxHeartbeats 1000000 in
set_option maxRecDepth 4000 in
theorem c_specDbOk (d : Dbt) (hb : bulkD d ≤ 1099511627775) : PCall Tryd.prog 82 [injD d] (· = [.c (.bool (dbB d))]) := by
  obtain ⟨cs, op⟩ := d
  obtain ⟨hnc, hbc, hno, hbo⟩ := bulkD_bd hb
  refine PCall_of (n := 28) Tryd.func82 rfl rfl (Nat.le_of_ble_eq_true rfl) fun C hdm hT0 => ?_
  have hT := hT0
  refine AC_seq fun K1 hK1 => ?_
  refine AC_region ?_
  refine AL_box (Lay.st [.one, .one]) (nf rfl) rfl (by first | rfl | simp [Lay.len, Lay.lens]) _ rfl rfl ?_
  refine AL_ev (Ev_assign) rfl ?_
  refine AL_nil ?_
  refine hK1 _ _ _ ?_
  refine AC_seq fun K2 hK2 => ?_
  refine AC_seq fun K3 hK3 => ?_
  refine AC_region ?_
  refine AL_ev (Ev_assign) rfl ?_
  refine AL_nil ?_
  refine hK3 _ _ _ ?_
  refine AC_block ?_
  refine AC_loopS [] (Nat) (fun j => [(3, i64 j), (1, .d (.rp (Lay.st [.one, .one]) (injD ⟨cs, op⟩) []))]) (fun j => []) (fun st => cs.length - st) (fun j => j ≤ cs.length ∧ cs.all clB = (cs.drop j).all clB) (0) ?_ ?_ ?_
  · skip
    exact enterS [] rfl rfl BxTo_nil (SlTo_cons (by first | exact .rd .d | exact Vw_int (by first | rfl | assumption | omega | (simp; done) | (simp; omega)) | exact Vw_c (by first | rfl | (simp; done) | simp_all) | exact .any) (SlTo_cons (by first | exact .rd (.ptr (srcFree rfl) rfl rfl rfl .d) | exact .rd .d) SlTo_nil))
  · skip
    exact ⟨Nat.zero_le _, by simp⟩
  rintro j ⟨hj, hI⟩
  show AC _ _ _ _ _ (FS [] _ [(3, i64 j), (1, .d (.rp (Lay.st [.one, .one]) (injD ⟨cs, op⟩) []))]) []
  refine AC_seq fun K4 hK4 => ?_
  refine AC_seq fun K5 hK5 => ?_
  refine AC_region ?_
  refine AL_ev (Ev_move) rfl ?_
  first | refine AL_ev (Ev_fa_ptr rfl fa30_0 rfl rfl) rfl ?_ | refine AL_ev (Ev_fa_rp rfl fa30_0 rfl rfl) rfl ?_
  first | refine AL_ev (Ev_load_ptr rfl rfl rfl rfl rfl rfl ts28 ta28 rfl (fun _ => rfl)) rfl ?_ | refine AL_ev (Ev_load_rp rfl rfl rfl ts28 ta28 rfl (fun _ => rfl)) rfl ?_
  first | refine AL_lim (x := (Operand.tmp 6)) rfl fun hl1 => ?_ | refine AL_limB (x := (Operand.tmp 6)) rfl rfl (by first | rfl | (simp; done) | (simp; omega)) fun hl1 => ?_ | have hl1 := True.intro
  try simp only [injs_length, ints_length, strs_length, injCs_length, List.length_map] at hl1
  first | refine AL_ev (Ev_len_injCs te28 rfl) rfl ?_ | refine AL_ev (Ev_len_sl te28 rfl) rfl ?_ | refine AL_ev (Ev_len_ref te28 rfl) rfl ?_ | refine AL_ev (Ev_len_nil te28 rfl) rfl ?_ | refine AL_ev (Ev_len_c te28 rfl) rfl ?_
  refine AL_ev (Ev_lss rfl rfl) rfl ?_
  refine AL_nil ?_
  refine hK5 _ _ _ ?_
  refine AC_cond rfl (fun hc1 => ?_) (fun hc1 => ?_)
  · skip
    have hlt : j < cs.length := by simpa using hc1
    obtain ⟨u, hu⟩ : ∃ x, cs[j]? = some x := ⟨_, List.getElem?_eq_getElem hlt⟩
    have hu2 := injCs_get hu
    have hdr := drop_get hu
    obtain ⟨hbu, hbv, _⟩ := bulkCs_bd (List.mem_of_getElem? hu) hbc
    refine AC_skip ?_
    refine hK4 _ _ _ ?_
    refine AC_seq fun K6 hK6 => ?_
    refine AC_block ?_
    refine AC_seq fun K7 hK7 => ?_
    refine AC_region ?_
    first | refine AL_ev (Ev_fa_ptr rfl fa30_0 rfl rfl) rfl ?_ | refine AL_ev (Ev_fa_rp rfl fa30_0 rfl rfl) rfl ?_
    first | refine AL_ev (Ev_load_ptr rfl rfl rfl rfl rfl rfl ts28 ta28 rfl (fun _ => rfl)) rfl ?_ | refine AL_ev (Ev_load_rp rfl rfl rfl ts28 ta28 rfl (fun _ => rfl)) rfl ?_
    refine AL_ev (Ev_move) rfl ?_
    first | refine AL_ev (Ev_ix_sl rfl rfl te28 ts68 (by omega) (by assumption)) rfl ?_ | refine AL_ev (Ev_ix_ref rfl rfl te28 ts68 (by omega) (by first | omega | (simp; omega))) rfl ?_
    first | refine AL_ev (Ev_load_ptr rfl rfl rfl rfl rfl rfl ts68 ta68 (by first | rfl | simp) (by intro h; cases h)) rfl ?_ | refine AL_ev (Ev_load_rp rfl rfl rfl ts68 ta68 (by first | rfl | simp) (by intro h; cases h)) rfl ?_
    refine AL_fcall0 hT rfl cl107 (c_l08Clause u (by omega) (by omega)) rfl rfl ?_
    refine AL_ev (Ev_not rfl) rfl ?_
    refine AL_nil ?_
    refine hK7 _ _ _ ?_
    refine AC_cond rfl (fun hc2 => ?_) (fun hc2 => ?_)
    · skip
      refine AC_seq fun K8 hK8 => ?_
      refine AC_region ?_
      refine AL_ev (Ev_assign) rfl ?_
      refine AL_nil ?_
      refine hK8 _ _ _ ?_
      refine AC_ret ?_
      refine ret_ok hdm (.tmp rfl rfl .nil) (.cons .d .nil) ?_
      rw [dbB]
      try rw [hI]
      try rw [hdr]
      simp_all
      try omega
    · skip
      refine AC_skip ?_
      refine hK6 _ _ _ ?_
      refine AC_region ?_
      refine AL_ev (Ev_move) rfl ?_
      first | refine AL_ev (Ev_add rfl rfl _ (wrap_id (by first | omega | (simp; omega)) (by first | omega | (simp; omega)))) rfl ?_ | refine AL_ev (Ev_add rfl rfl _ rfl) rfl ?_
      refine AL_ev (Ev_assign) rfl ?_
      refine AL_nil ?_
      refine closeS (j + 1) [] rfl rfl (by show cs.length - (j + 1) < cs.length - j; omega) ⟨hlt, ?_⟩ BxTo_nil (SlTo_cons (by first | exact .rd .d | exact Vw_int (by first | rfl | assumption | omega | (simp; done) | (simp; omega)) | exact Vw_c (by first | rfl | (simp; done) | simp_all) | exact .any) (SlTo_cons (by first | exact .rd (.ptr (srcFree rfl) rfl rfl rfl .d) | exact .rd .d) SlTo_nil))
      rw [hI, hdr, List.all_cons]
      simp_all
  · skip
    have hj2 : j = cs.length := by
      have : ¬ j < cs.length := by simpa using hc1
      omega
    subst hj2
    rw [List.drop_length] at hI
    refine AC_exit ?_
    refine hK2 _ _ _ ?_
    refine AC_seq fun K9 hK9 => ?_
    refine AC_region ?_
    first | refine AL_ev (Ev_fa_ptr rfl fa30_0 rfl rfl) rfl ?_ | refine AL_ev (Ev_fa_rp rfl fa30_0 rfl rfl) rfl ?_
    first | refine AL_ev (Ev_load_ptr rfl rfl rfl rfl rfl rfl ts28 ta28 rfl (fun _ => rfl)) rfl ?_ | refine AL_ev (Ev_load_rp rfl rfl rfl ts28 ta28 rfl (fun _ => rfl)) rfl ?_
    first | refine AL_lim (x := (Operand.tmp 19)) rfl fun hl2 => ?_ | refine AL_limB (x := (Operand.tmp 19)) rfl rfl (by first | rfl | (simp; done) | (simp; omega)) fun hl2 => ?_ | have hl2 := True.intro
    try simp only [injs_length, ints_length, strs_length, injCs_length, List.length_map] at hl2
    first | refine AL_ev (Ev_len_injCs te28 rfl) rfl ?_ | refine AL_ev (Ev_len_sl te28 rfl) rfl ?_ | refine AL_ev (Ev_len_ref te28 rfl) rfl ?_ | refine AL_ev (Ev_len_nil te28 rfl) rfl ?_ | refine AL_ev (Ev_len_c te28 rfl) rfl ?_
    refine AL_ev (Ev_leq rfl rfl) rfl ?_
    refine AL_ev (Ev_move) rfl ?_
    refine AL_bool 22 rfl (fun hg3 => ?_) (fun hg3 => ?_)
    · skip
      refine AL_guard_t rfl rfl rfl ?_
      first | refine AL_ev (Ev_fa_ptr rfl fa30_1 rfl rfl) rfl ?_ | refine AL_ev (Ev_fa_rp rfl fa30_1 rfl rfl) rfl ?_
      refine AL_guard_t rfl rfl rfl ?_
      first | refine AL_ev (Ev_load_ptr rfl rfl rfl rfl rfl rfl ts23 ta23 rfl (fun _ => rfl)) rfl ?_ | refine AL_ev (Ev_load_rp rfl rfl rfl ts23 ta23 rfl (fun _ => rfl)) rfl ?_
      refine AL_guard_t rfl rfl rfl ?_
      first | refine AL_lim (x := (Operand.tmp 24)) rfl fun hl3 => ?_ | refine AL_limB (x := (Operand.tmp 24)) rfl rfl (by first | rfl | (simp; done) | (simp; omega)) fun hl3 => ?_ | have hl3 := True.intro
      try simp only [injs_length, ints_length, strs_length, injCs_length, List.length_map] at hl3
      first | refine AL_ev (Ev_len_strs te23 rfl) rfl ?_ | refine AL_ev (Ev_len_sl te23 rfl) rfl ?_ | refine AL_ev (Ev_len_ref te23 rfl) rfl ?_ | refine AL_ev (Ev_len_nil te23 rfl) rfl ?_ | refine AL_ev (Ev_len_c te23 rfl) rfl ?_
      refine AL_guard_t rfl rfl rfl ?_
      refine AL_ev (Ev_leq rfl rfl) rfl ?_
      refine AL_ev (Ev_pick rfl) rfl ?_
      refine AL_ev (Ev_assign) rfl ?_
      refine AL_nil ?_
      refine hK9 _ _ _ ?_
      refine AC_ret ?_
      refine ret_ok hdm (.tmp rfl rfl .nil) (.cons .d .nil) ?_
      rw [dbB]
      try rw [hI]
      try rw [hdr]
      simp_all
      try omega
    · skip
      refine AL_guard_f rfl rfl rfl rfl ?_
      refine AL_guard_f rfl rfl rfl rfl ?_
      refine AL_guard_f rfl rfl rfl rfl ?_
      refine AL_guard_f rfl rfl rfl rfl ?_
      refine AL_ev (Ev_pick rfl) rfl ?_
      refine AL_ev (Ev_assign) rfl ?_
      refine AL_nil ?_
      refine hK9 _ _ _ ?_
      refine AC_ret ?_
      refine ret_ok hdm (.tmp rfl rfl .nil) (.cons .d .nil) ?_
      rw [dbB]
      try rw [hI]
      try rw [hdr]
      simp_all
      try omega

set_option maxHeartbeats 1000000 in
set_option maxRecDepth 4000 in
theorem c_plainDb (d : Dbt) (hb : bulkD d ≤ 1099511627775) : PCall Tryd.prog 41 [injD d] (· = [.c (.bool (plainB d))]) := by
  obtain ⟨cs, op⟩ := d
  obtain ⟨hnc, hbc, hno, hbo⟩ := bulkD_bd hb
  refine PCall_of (n := 32) Tryd.func41 rfl rfl (Nat.le_of_ble_eq_true rfl) fun C hdm hT0 => ?_
  have hT := hT0
  refine AC_seq fun K1 hK1 => ?_
  refine AC_region ?_
  refine AL_box (Lay.st [.one, .one]) (nf rfl) rfl (by first | rfl | simp [Lay.len, Lay.lens]) _ rfl rfl ?_
  refine AL_ev (Ev_assign) rfl ?_
  refine AL_nil ?_
  refine hK1 _ _ _ ?_
  refine AC_seq fun K2 hK2 => ?_
  refine AC_seq fun K3 hK3 => ?_
  refine AC_region ?_
  first | refine AL_ev (Ev_load_ptr rfl rfl rfl rfl rfl rfl ts30 ta30 (by first | rfl | simp) (by intro h; cases h)) rfl ?_ | refine AL_ev (Ev_load_rp rfl rfl rfl ts30 ta30 (by first | rfl | simp) (by intro h; cases h)) rfl ?_
  refine AL_fcall0 hT rfl cl83 (c_dbOk ⟨cs, op⟩ hb) rfl rfl ?_
  refine AL_ev (Ev_not rfl) rfl ?_
  refine AL_ev (Ev_move) rfl ?_
  refine AL_bool 10 rfl (fun hg1 => ?_) (fun hg1 => ?_)
  · skip
    refine AL_guard_f rfl rfl rfl rfl ?_
    refine AL_guard_f rfl rfl rfl rfl ?_
    refine AL_guard_f rfl rfl rfl rfl ?_
    refine AL_guard_f rfl rfl rfl rfl ?_
    refine AL_ev (Ev_pick rfl) rfl ?_
    refine AL_nil ?_
    refine hK3 _ _ _ ?_
    refine AC_cond_t rfl ?_
    refine AC_seq fun K4 hK4 => ?_
    refine AC_region ?_
    refine AL_ev (Ev_assign) rfl ?_
    refine AL_nil ?_
    refine hK4 _ _ _ ?_
    refine AC_ret ?_
    refine ret_ok hdm (.tmp rfl rfl .nil) (.cons .d .nil) ?_
    rw [plainB_eq]
    have hpr := clsOf_any cs cPr
    try rw [hI]
    try rw [hdr]
    simp_all
  · skip
    refine AL_guard_t rfl rfl rfl ?_
    first | refine AL_ev (Ev_load_ptr rfl rfl rfl rfl rfl rfl ts30 ta30 (by first | rfl | simp) (by intro h; cases h)) rfl ?_ | refine AL_ev (Ev_load_rp rfl rfl rfl ts30 ta30 (by first | rfl | simp) (by intro h; cases h)) rfl ?_
    refine AL_guard_t rfl rfl rfl ?_
    refine AL_fcall0 hT rfl cl84 (c_clausesOf ⟨cs, op⟩ cPr (by omega)) rfl rfl ?_
    refine AL_guard_t rfl rfl rfl ?_
    first | refine AL_lim (x := (Operand.tmp 12)) rfl fun hl1 => ?_ | refine AL_limB (x := (Operand.tmp 12)) rfl rfl (by first | rfl | (simp; done) | (simp; omega)) fun hl1 => ?_ | have hl1 := True.intro
    try simp only [injs_length, ints_length, strs_length, injCs_length, List.length_map] at hl1
    first | refine AL_ev (Ev_len_injCs te28 rfl) rfl ?_ | refine AL_ev (Ev_len_sl te28 rfl) rfl ?_ | refine AL_ev (Ev_len_ref te28 rfl) rfl ?_ | refine AL_ev (Ev_len_nil te28 rfl) rfl ?_ | refine AL_ev (Ev_len_c te28 rfl) rfl ?_
    refine AL_guard_t rfl rfl rfl ?_
    refine AL_ev (Ev_gtr rfl rfl) rfl ?_
    refine AL_ev (Ev_pick rfl) rfl ?_
    refine AL_nil ?_
    refine hK3 _ _ _ ?_
    refine AC_cond rfl (fun hc2 => ?_) (fun hc2 => ?_)
    · skip
      refine AC_seq fun K5 hK5 => ?_
      refine AC_region ?_
      refine AL_ev (Ev_assign) rfl ?_
      refine AL_nil ?_
      refine hK5 _ _ _ ?_
      refine AC_ret ?_
      refine ret_ok hdm (.tmp rfl rfl .nil) (.cons .d .nil) ?_
      rw [plainB_eq]
      have hpr := clsOf_any cs cPr
      try rw [hI]
      try rw [hdr]
      simp_all
    · skip
      refine AC_skip ?_
      refine hK2 _ _ _ ?_
      refine AC_seq fun K6 hK6 => ?_
      refine AC_seq fun K7 hK7 => ?_
      refine AC_region ?_
      first | refine AL_ev (Ev_fa_ptr rfl fa30_0 rfl rfl) rfl ?_ | refine AL_ev (Ev_fa_rp rfl fa30_0 rfl rfl) rfl ?_
      first | refine AL_ev (Ev_load_ptr rfl rfl rfl rfl rfl rfl ts28 ta28 rfl (fun _ => rfl)) rfl ?_ | refine AL_ev (Ev_load_rp rfl rfl rfl ts28 ta28 rfl (fun _ => rfl)) rfl ?_
      first | refine AL_lim (x := (Operand.tmp 17)) rfl fun hl2 => ?_ | refine AL_limB (x := (Operand.tmp 17)) rfl rfl (by first | rfl | (simp; done) | (simp; omega)) fun hl2 => ?_ | have hl2 := True.intro
      try simp only [injs_length, ints_length, strs_length, injCs_length, List.length_map] at hl2
      first | refine AL_ev (Ev_len_injCs te28 rfl) rfl ?_ | refine AL_ev (Ev_len_sl te28 rfl) rfl ?_ | refine AL_ev (Ev_len_ref te28 rfl) rfl ?_ | refine AL_ev (Ev_len_nil te28 rfl) rfl ?_ | refine AL_ev (Ev_len_c te28 rfl) rfl ?_
      refine AL_ev (Ev_move) rfl ?_
      refine AL_nil ?_
      refine hK7 _ _ _ ?_
      refine AC_block ?_
      refine AC_loopS [17, 18] (Nat) (fun j => [(19, i64 j)]) (fun j => []) (fun st => cs.length - st) (fun j => j ≤ cs.length ∧ (cs.all fun c => (goalsIn c.b).2) = (cs.drop j).all fun c => (goalsIn c.b).2) (0) ?_ ?_ ?_
      · skip
        exact enterS [] rfl rfl BxTo_nil (SlTo_cons (by first | exact .rd .d | exact Vw_int (by first | rfl | assumption | omega | (simp; done) | (simp; omega)) | exact Vw_c (by first | rfl | (simp; done) | simp_all) | exact .any) (SlTo_cons (by first | exact .rd .d | exact .any) (SlTo_cons (by first | exact .rd .d | exact .any) SlTo_nil)))
      · skip
        exact ⟨Nat.zero_le _, by simp⟩
      rintro j ⟨hj, hI⟩
      show AC _ _ _ _ _ (FS [17, 18] _ [(19, i64 j)]) []
      refine AC_seq fun K8 hK8 => ?_
      refine AC_region ?_
      refine AL_ev (Ev_lss rfl rfl) rfl ?_
      refine AL_nil ?_
      refine hK8 _ _ _ ?_
      refine AC_seq fun K9 hK9 => ?_
      refine AC_cond rfl (fun hc3 => ?_) (fun hc3 => ?_)
      · skip
        have hlt : j < cs.length := by simpa using hc3
        obtain ⟨u, hu⟩ : ∃ x, cs[j]? = some x := ⟨_, List.getElem?_eq_getElem hlt⟩
        have hu2 := injCs_get hu
        have hdr := drop_get hu
        obtain ⟨hbu, hbv, _⟩ := bulkCs_bd (List.mem_of_getElem? hu) hbc
        refine AC_skip ?_
        refine hK9 _ _ _ ?_
        refine AC_seq fun K10 hK10 => ?_
        refine AC_block ?_
        refine AC_seq fun K11 hK11 => ?_
        refine AC_region ?_
        first | refine AL_ev (Ev_ix_sl rfl rfl te28 ts68 (by omega) (by assumption)) rfl ?_ | refine AL_ev (Ev_ix_ref rfl rfl te28 ts68 (by omega) (by first | omega | (simp; omega))) rfl ?_
        first | refine AL_ev (Ev_load_ptr rfl rfl rfl rfl rfl rfl ts68 ta68 (by first | rfl | simp) (by intro h; cases h)) rfl ?_ | refine AL_ev (Ev_load_rp rfl rfl rfl ts68 ta68 (by first | rfl | simp) (by intro h; cases h)) rfl ?_
        refine AL_alloc zo68 _ rfl rfl ?_
        first | refine AL_store rfl (nf rfl) rfl rfl rfl rfl rfl rfl (by first | rfl | simp [Lay.len, Lay.lens]) ts68 rfl rfl ?_ | refine AL_store rfl (nf rfl) rfl rfl rfl hes rfl rfl (by first | rfl | simp [Lay.len, Lay.lens]) ts68 rfl rfl ?_
        refine AL_nil ?_
        refine hK11 _ _ _ ?_
        refine AC_seq fun K12 hK12 => ?_
        refine AC_region ?_
        first | refine AL_ev (Ev_fa_ptr rfl fa68_1 rfl rfl) rfl ?_ | refine AL_ev (Ev_fa_rp rfl fa68_1 rfl rfl) rfl ?_
        first | refine AL_ev (Ev_load_ptr rfl rfl rfl rfl rfl rfl ts45 ta45 (by first | rfl | simp) (by intro h; cases h)) rfl ?_ | refine AL_ev (Ev_load_rp rfl rfl rfl ts45 ta45 (by first | rfl | simp) (by intro h; cases h)) rfl ?_
        refine AL_fcall0 hT rfl cl27 ((c_goalsIn u.b (by omega)).pcall rfl) rfl rfl ?_
        refine AL_ev (Ev_move) rfl ?_
        refine AL_ev (Ev_extract rfl rfl) rfl ?_
        refine AL_ev (Ev_extract rfl rfl) rfl ?_
        refine AL_ev (Ev_assign) rfl ?_
        refine AL_ev (Ev_assign) rfl ?_
        refine AL_nil ?_
        refine hK12 _ _ _ ?_
        refine AC_seq fun K13 hK13 => ?_
        refine AC_region ?_
        refine AL_ev (Ev_move) rfl ?_
        refine AL_ev (Ev_not rfl) rfl ?_
        refine AL_nil ?_
        refine hK13 _ _ _ ?_
        refine AC_cond rfl (fun hc4 => ?_) (fun hc4 => ?_)
        · skip
          refine AC_seq fun K14 hK14 => ?_
          refine AC_region ?_
          refine AL_ev (Ev_assign) rfl ?_
          refine AL_nil ?_
          refine hK14 _ _ _ ?_
          refine AC_ret ?_
          refine ret_ok hdm (.tmp rfl rfl .nil) (.cons .d .nil) ?_
          rw [plainB_eq]
          have hpr := clsOf_any cs cPr
          try rw [hI]
          try rw [hdr]
          simp_all
        · skip
          refine AC_skip ?_
          refine hK10 _ _ _ ?_
          refine AC_region ?_
          first | refine AL_ev (Ev_add rfl rfl _ (wrap_id (by first | omega | (simp; omega)) (by first | omega | (simp; omega)))) rfl ?_ | refine AL_ev (Ev_add rfl rfl _ rfl) rfl ?_
          refine AL_ev (Ev_move) rfl ?_
          refine AL_nil ?_
          refine closeS (j + 1) [] rfl rfl (by show cs.length - (j + 1) < cs.length - j; omega) ⟨hlt, ?_⟩ BxTo_nil (SlTo_cons (by first | exact .rd .d | exact Vw_int (by first | rfl | assumption | omega | (simp; done) | (simp; omega)) | exact Vw_c (by first | rfl | (simp; done) | simp_all) | exact .any) (SlTo_cons (by first | exact .rd .d | exact .any) (SlTo_cons (by first | exact .rd .d | exact .any) SlTo_nil)))
          rw [hI, hdr, List.all_cons]
          simp_all
      · skip
        have hj2 : j = cs.length := by
          have : ¬ j < cs.length := by simpa using hc3
          omega
        subst hj2
        rw [List.drop_length] at hI
        refine AC_exit ?_
        refine hK6 _ _ _ ?_
        refine AC_seq fun K15 hK15 => ?_
        refine AC_region ?_
        refine AL_ev (Ev_assign) rfl ?_
        refine AL_nil ?_
        refine hK15 _ _ _ ?_
        refine AC_ret ?_
        refine ret_ok hdm (.tmp rfl rfl .nil) (.cons .d .nil) ?_
        rw [plainB_eq]
        have hpr := clsOf_any cs cPr
        try rw [hI]
        try rw [hdr]
        simp_all

set_option maxHeartbeats 1000000 in
set_option maxRecDepth 4000 in
theorem c_specPlainDb (d : Dbt) (hb : bulkD d ≤ 1099511627775) : PCall Tryd.prog 40 [injD d] (· = [.c (.bool (plainB d))]) := by
  obtain ⟨cs, op⟩ := d
  obtain ⟨hnc, hbc, hno, hbo⟩ := bulkD_bd hb
  refine PCall_of (n := 37) Tryd.func40 rfl rfl (Nat.le_of_ble_eq_true rfl) fun C hdm hT0 => ?_
  have hT := hT0
  refine AC_seq fun K1 hK1 => ?_
  refine AC_region ?_
  refine AL_box (Lay.st [.one, .one]) (nf rfl) rfl (by first | rfl | simp [Lay.len, Lay.lens]) _ rfl rfl ?_
  refine AL_ev (Ev_assign) rfl ?_
  refine AL_nil ?_
  refine hK1 _ _ _ ?_
  refine AC_seq fun K2 hK2 => ?_
  refine AC_seq fun K3 hK3 => ?_
  refine AC_region ?_
  refine AL_ev (Ev_assign) rfl ?_
  refine AL_nil ?_
  refine hK3 _ _ _ ?_
  refine AC_block ?_
  refine AC_loopS [] (Nat) (fun j => [(3, i64 j), (1, .d (.rp (Lay.st [.one, .one]) (injD ⟨cs, op⟩) []))]) (fun j => []) (fun st => cs.length - st) (fun j => j ≤ cs.length ∧ (cs.all fun c => (goalsIn c.b).2 && !decide (predS c.h = cPr)) = (cs.drop j).all fun c => (goalsIn c.b).2 && !decide (predS c.h = cPr)) (0) ?_ ?_ ?_
  · skip
    exact enterS [] rfl rfl BxTo_nil (SlTo_cons (by first | exact .rd .d | exact Vw_int (by first | rfl | assumption | omega | (simp; done) | (simp; omega)) | exact Vw_c (by first | rfl | (simp; done) | simp_all) | exact .any) (SlTo_cons (by first | exact .rd (.ptr (srcFree rfl) rfl rfl rfl .d) | exact .rd .d) SlTo_nil))
  · skip
    exact ⟨Nat.zero_le _, by simp⟩
  rintro j ⟨hj, hI⟩
  show AC _ _ _ _ _ (FS [] _ [(3, i64 j), (1, .d (.rp (Lay.st [.one, .one]) (injD ⟨cs, op⟩) []))]) []
  refine AC_seq fun K4 hK4 => ?_
  refine AC_seq fun K5 hK5 => ?_
  refine AC_region ?_
  refine AL_ev (Ev_move) rfl ?_
  first | refine AL_ev (Ev_fa_ptr rfl fa30_0 rfl rfl) rfl ?_ | refine AL_ev (Ev_fa_rp rfl fa30_0 rfl rfl) rfl ?_
  first | refine AL_ev (Ev_load_ptr rfl rfl rfl rfl rfl rfl ts28 ta28 rfl (fun _ => rfl)) rfl ?_ | refine AL_ev (Ev_load_rp rfl rfl rfl ts28 ta28 rfl (fun _ => rfl)) rfl ?_
  first | refine AL_lim (x := (Operand.tmp 8)) rfl fun hl1 => ?_ | refine AL_limB (x := (Operand.tmp 8)) rfl rfl (by first | rfl | (simp; done) | (simp; omega)) fun hl1 => ?_ | have hl1 := True.intro
  try simp only [injs_length, ints_length, strs_length, injCs_length, List.length_map] at hl1
  first | refine AL_ev (Ev_len_injCs te28 rfl) rfl ?_ | refine AL_ev (Ev_len_sl te28 rfl) rfl ?_ | refine AL_ev (Ev_len_ref te28 rfl) rfl ?_ | refine AL_ev (Ev_len_nil te28 rfl) rfl ?_ | refine AL_ev (Ev_len_c te28 rfl) rfl ?_
  refine AL_ev (Ev_lss rfl rfl) rfl ?_
  refine AL_nil ?_
  refine hK5 _ _ _ ?_
  refine AC_cond rfl (fun hc1 => ?_) (fun hc1 => ?_)
  · skip
    have hlt : j < cs.length := by simpa using hc1
    obtain ⟨u, hu⟩ : ∃ x, cs[j]? = some x := ⟨_, List.getElem?_eq_getElem hlt⟩
    have hu2 := injCs_get hu
    have hdr := drop_get hu
    obtain ⟨hbu, hbv, _⟩ := bulkCs_bd (List.mem_of_getElem? hu) hbc
    refine AC_skip ?_
    refine hK4 _ _ _ ?_
    refine AC_seq fun K6 hK6 => ?_
    refine AC_block ?_
    refine AC_seq fun K7 hK7 => ?_
    refine AC_region ?_
    first | refine AL_ev (Ev_fa_ptr rfl fa30_0 rfl rfl) rfl ?_ | refine AL_ev (Ev_fa_rp rfl fa30_0 rfl rfl) rfl ?_
    first | refine AL_ev (Ev_load_ptr rfl rfl rfl rfl rfl rfl ts28 ta28 rfl (fun _ => rfl)) rfl ?_ | refine AL_ev (Ev_load_rp rfl rfl rfl ts28 ta28 rfl (fun _ => rfl)) rfl ?_
    refine AL_ev (Ev_move) rfl ?_
    first | refine AL_ev (Ev_ix_sl rfl rfl te28 ts68 (by omega) (by assumption)) rfl ?_ | refine AL_ev (Ev_ix_ref rfl rfl te28 ts68 (by omega) (by first | omega | (simp; omega))) rfl ?_
    first | refine AL_ev (Ev_fa_ptr rfl fa68_1 rfl rfl) rfl ?_ | refine AL_ev (Ev_fa_rp rfl fa68_1 rfl rfl) rfl ?_
    first | refine AL_ev (Ev_load_ptr rfl rfl rfl rfl rfl rfl ts45 ta45 (by first | rfl | simp) (by intro h; cases h)) rfl ?_ | refine AL_ev (Ev_load_rp rfl rfl rfl ts45 ta45 (by first | rfl | simp) (by intro h; cases h)) rfl ?_
    refine AL_fcall0 hT rfl cl25 (c_specGoalsIn u.b (by omega)) rfl rfl ?_
    refine AL_ev (Ev_move) rfl ?_
    refine AL_ev (Ev_extract rfl rfl) rfl ?_
    refine AL_ev (Ev_extract rfl rfl) rfl ?_
    refine AL_ev (Ev_assign) rfl ?_
    refine AL_ev (Ev_assign) rfl ?_
    refine AL_nil ?_
    refine hK7 _ _ _ ?_
    refine AC_seq fun K8 hK8 => ?_
    refine AC_region ?_
    refine AL_ev (Ev_move) rfl ?_
    refine AL_ev (Ev_not rfl) rfl ?_
    refine AL_ev (Ev_move) rfl ?_
    refine AL_bool 25 rfl (fun hg2 => ?_) (fun hg2 => ?_)
    · skip
      refine AL_guard_f rfl rfl rfl rfl ?_
      refine AL_guard_f rfl rfl rfl rfl ?_
      refine AL_guard_f rfl rfl rfl rfl ?_
      refine AL_guard_f rfl rfl rfl rfl ?_
      refine AL_guard_f rfl rfl rfl rfl ?_
      refine AL_guard_f rfl rfl rfl rfl ?_
      refine AL_guard_f rfl rfl rfl rfl ?_
      refine AL_guard_f rfl rfl rfl rfl ?_
      refine AL_ev (Ev_pick rfl) rfl ?_
      refine AL_nil ?_
      refine hK8 _ _ _ ?_
      refine AC_cond_t rfl ?_
      refine AC_seq fun K9 hK9 => ?_
      refine AC_region ?_
      refine AL_ev (Ev_assign) rfl ?_
      refine AL_nil ?_
      refine hK9 _ _ _ ?_
      refine AC_ret ?_
      refine ret_ok hdm (.tmp rfl rfl .nil) (.cons .d .nil) ?_
      rw [plainB]
      try rw [hI]
      try rw [hdr]
      simp_all
    · skip
      refine AL_guard_t rfl rfl rfl ?_
      first | refine AL_ev (Ev_fa_ptr rfl fa30_0 rfl rfl) rfl ?_ | refine AL_ev (Ev_fa_rp rfl fa30_0 rfl rfl) rfl ?_
      refine AL_guard_t rfl rfl rfl ?_
      first | refine AL_ev (Ev_load_ptr rfl rfl rfl rfl rfl rfl ts28 ta28 rfl (fun _ => rfl)) rfl ?_ | refine AL_ev (Ev_load_rp rfl rfl rfl ts28 ta28 rfl (fun _ => rfl)) rfl ?_
      refine AL_guard_t rfl rfl rfl ?_
      refine AL_ev (Ev_move) rfl ?_
      refine AL_guard_t rfl rfl rfl ?_
      first | refine AL_ev (Ev_ix_sl rfl rfl te28 ts68 (by omega) (by assumption)) rfl ?_ | refine AL_ev (Ev_ix_ref rfl rfl te28 ts68 (by omega) (by first | omega | (simp; omega))) rfl ?_
      refine AL_guard_t rfl rfl rfl ?_
      first | refine AL_ev (Ev_fa_ptr rfl fa68_0 rfl rfl) rfl ?_ | refine AL_ev (Ev_fa_rp rfl fa68_0 rfl rfl) rfl ?_
      refine AL_guard_t rfl rfl rfl ?_
      first | refine AL_ev (Ev_load_ptr rfl rfl rfl rfl rfl rfl ts45 ta45 (by first | rfl | simp) (by intro h; cases h)) rfl ?_ | refine AL_ev (Ev_load_rp rfl rfl rfl ts45 ta45 (by first | rfl | simp) (by intro h; cases h)) rfl ?_
      refine AL_guard_t rfl rfl rfl ?_
      refine AL_fcall0 hT rfl cl60 (c_specPredOf u.h (by omega)) rfl rfl ?_
      refine AL_guard_t rfl rfl rfl ?_
      refine AL_ev (Ev_seql rfl rfl) rfl ?_
      refine AL_ev (Ev_pick rfl) rfl ?_
      refine AL_nil ?_
      refine hK8 _ _ _ ?_
      refine AC_cond rfl (fun hc3 => ?_) (fun hc3 => ?_)
      · skip
        refine AC_seq fun K10 hK10 => ?_
        refine AC_region ?_
        refine AL_ev (Ev_assign) rfl ?_
        refine AL_nil ?_
        refine hK10 _ _ _ ?_
        refine AC_ret ?_
        refine ret_ok hdm (.tmp rfl rfl .nil) (.cons .d .nil) ?_
        rw [plainB]
        try rw [hI]
        try rw [hdr]
        simp_all
      · skip
        refine AC_skip ?_
        refine hK6 _ _ _ ?_
        refine AC_region ?_
        refine AL_ev (Ev_move) rfl ?_
        first | refine AL_ev (Ev_add rfl rfl _ (wrap_id (by first | omega | (simp; omega)) (by first | omega | (simp; omega)))) rfl ?_ | refine AL_ev (Ev_add rfl rfl _ rfl) rfl ?_
        refine AL_ev (Ev_assign) rfl ?_
        refine AL_nil ?_
        refine closeS (j + 1) [] rfl rfl (by show cs.length - (j + 1) < cs.length - j; omega) ⟨hlt, ?_⟩ BxTo_nil (SlTo_cons (by first | exact .rd .d | exact Vw_int (by first | rfl | assumption | omega | (simp; done) | (simp; omega)) | exact Vw_c (by first | rfl | (simp; done) | simp_all) | exact .any) (SlTo_cons (by first | exact .rd (.ptr (srcFree rfl) rfl rfl rfl .d) | exact .rd .d) SlTo_nil))
        rw [hI, hdr, List.all_cons]
        simp_all
  · skip
    have hj2 : j = cs.length := by
      have : ¬ j < cs.length := by simpa using hc1
      omega
    subst hj2
    rw [List.drop_length] at hI
    refine AC_exit ?_
    refine hK2 _ _ _ ?_
    refine AC_seq fun K11 hK11 => ?_
    refine AC_region ?_
    first | refine AL_ev (Ev_load_ptr rfl rfl rfl rfl rfl rfl ts30 ta30 (by first | rfl | simp) (by intro h; cases h)) rfl ?_ | refine AL_ev (Ev_load_rp rfl rfl rfl ts30 ta30 (by first | rfl | simp) (by intro h; cases h)) rfl ?_
    refine AL_fcall0 hT rfl cl82 (c_specDbOk ⟨cs, op⟩ hb) rfl rfl ?_
    refine AL_ev (Ev_assign) rfl ?_
    refine AL_nil ?_
    refine hK11 _ _ _ ?_
    refine AC_ret ?_
    refine ret_ok hdm (.tmp rfl rfl .nil) (.cons .d .nil) ?_
    rw [plainB]
    try rw [hI]
    try rw [hdr]
    simp_all

set_option maxHeartbeats 1000000 in
set_option maxRecDepth 4000 in
theorem c_lawPlainDb (d : Dbt) (hb : bulkD d ≤ 1048576) : PCall Tryd.prog 7 [injD d] (· = [.c (.bool true)]) := by
  have hcs := cntCs_nn d.cs
  have hcb := cntCs_bulk d.cs
  obtain ⟨hb1, hb2, hb3, hb4⟩ := bulkD_bd (cs := d.cs) (op := d.op) (B := 1048576) hb
  refine PCall_of (n := 27) Tryd.func7 rfl rfl (Nat.le_of_ble_eq_true rfl) fun C hdm hT0 => ?_
  have hT := hT0
  have hX0 := CExt.refl C
  refine AC_seq fun K1 hK1 => ?_
  refine AC_region ?_
  refine AL_box (Lay.st [.one, .one]) (nf rfl) rfl (by first | rfl | simp [Lay.len, Lay.lens]) _ rfl rfl ?_
  refine AL_ev (Ev_assign) rfl ?_
  refine AL_nil ?_
  refine hK1 _ _ _ ?_
  refine AC_seq fun K2 hK2 => ?_
  refine AC_region ?_
  refine AL_ev (Ev_assign) rfl ?_
  refine AL_nil ?_
  refine hK2 _ _ _ ?_
  refine AC_seq fun K3 hK3 => ?_
  refine AC_region ?_
  first | refine AL_ev (Ev_load_ptr rfl rfl rfl rfl rfl rfl ts25 ta25 (by first | rfl | simp) (by intro h; cases h)) rfl ?_ | refine AL_ev (Ev_load_rp rfl rfl rfl ts25 ta25 (by first | rfl | simp) (by intro h; cases h)) rfl ?_
  refine AL_ev (Ev_move) rfl ?_
  refine AL_fcall0 hT rfl cl15 (c_szDb d 1048576 hb (by omega)) rfl rfl ?_
  refine AL_ev (Ev_assign) rfl ?_
  refine AL_nil ?_
  refine hK3 _ _ _ ?_
  refine AC_seq fun K4 hK4 => ?_
  refine AC_seq fun K5 hK5 => ?_
  refine AC_region ?_
  refine AL_ev (Ev_move) rfl ?_
  refine AL_ev (Ev_lss rfl rfl) rfl ?_
  refine AL_nil ?_
  refine hK5 _ _ _ ?_
  refine AC_cond rfl (fun hc1 => ?_) (fun hc1 => ?_)
  · skip
    have : (1048576 : Int) - (bulkD d) < 0 := by simpa using hc1
    omega
  · skip
    refine AC_skip ?_
    refine hK4 _ _ _ ?_
    refine AC_seq fun K6 hK6 => ?_
    refine AC_region ?_
    first | refine AL_ev (Ev_load_ptr rfl rfl rfl rfl rfl rfl ts25 ta25 (by first | rfl | simp) (by intro h; cases h)) rfl ?_ | refine AL_ev (Ev_load_rp rfl rfl rfl ts25 ta25 (by first | rfl | simp) (by intro h; cases h)) rfl ?_
    refine AL_fcall0 hT rfl cl17 ((c_toDb d).pcall) rfl rfl ?_
    refine AL_fcall0 hT rfl cl40 (c_specPlainDb d (by omega)) rfl rfl ?_
    refine AL_ev (Ev_assign) rfl ?_
    refine AL_nil ?_
    refine hK6 _ _ _ ?_
    refine AC_seq fun K7 hK7 => ?_
    refine AC_region ?_
    first | refine AL_ev (Ev_load_ptr rfl rfl rfl rfl rfl rfl ts25 ta25 (by first | rfl | simp) (by intro h; cases h)) rfl ?_ | refine AL_ev (Ev_load_rp rfl rfl rfl ts25 ta25 (by first | rfl | simp) (by intro h; cases h)) rfl ?_
    refine AL_ocall0 hT LD rfl cl17 (c_toDb d) rfl (injD_lenL d) (injD_agL d) rfl fun C1 cs1 K1 hg1 => ?_
    have hX1 := hX0.trans hg1.ext
    have hT := hT.ext hg1.ext
    have hx := hg1.has
    refine AL_alloc zo30 _ rfl rfl ?_
    first | refine AL_store rfl (nf rfl) rfl rfl rfl rfl rfl rfl (by first | rfl | simp [Lay.len, Lay.lens]) ts30 rfl rfl ?_ | refine AL_store rfl (nf rfl) rfl rfl rfl hes rfl rfl (by first | rfl | simp [Lay.len, Lay.lens]) ts30 rfl rfl ?_
    refine AL_nil ?_
    refine hK7 _ _ _ ?_
    refine AC_seq fun K8 hK8 => ?_
    refine AC_region ?_
    first | refine AL_ev (Ev_load_ptr rfl rfl rfl rfl rfl rfl ts30 ta30 (by first | rfl | simp) (by intro h; cases h)) rfl ?_ | refine AL_ev (Ev_load_rp rfl rfl rfl ts30 ta30 (by first | rfl | simp) (by intro h; cases h)) rfl ?_
    refine AL_qcall hT rfl cl41 (c_plainDb d (by omega)) (.cons (.raw (l := LD) (cs := cs1) hx hg1.len (injD_agL d)) .nil) rfl ?_
    refine AL_ev (Ev_assign) rfl ?_
    refine AL_nil ?_
    refine hK8 _ _ _ ?_
    refine AC_seq fun K9 hK9 => ?_
    refine AC_seq fun K10 hK10 => ?_
    refine AC_region ?_
    refine AL_ev (Ev_move) rfl ?_
    refine AL_ev (Ev_move) rfl ?_
    refine AL_ev (Ev_bneq tbool4 rfl rfl) rfl ?_
    refine AL_nil ?_
    refine hK10 _ _ _ ?_
    refine AC_cond rfl (fun hc2 => ?_) (fun hc2 => ?_)
    · skip
      exact absurd hc2 (by simp)
    · skip
      refine AC_skip ?_
      refine hK9 _ _ _ ?_
      refine AC_seq fun K11 hK11 => ?_
      refine AC_seq fun K12 hK12 => ?_
      refine AC_draw hT follows [0, 1, 2, 3, 4] (by kernel_rfl) ?_
      first | refine DT_ev rfl (EA_load_ptr rfl rfl rfl rfl rfl rfl ts30 ta30 (by first | rfl | simp) (by intro h; cases h)) rfl ?_ | refine DT_ev rfl (EA_load_rp rfl rfl rfl ts30 ta30 (by first | rfl | simp) (by intro h; cases h)) rfl ?_
      first | refine DT_ev rfl (EA_load_ptr rfl rfl rfl rfl rfl rfl ts25 ta25 (by first | rfl | simp) (by intro h; cases h)) rfl ?_ | refine DT_ev rfl (EA_load_rp rfl rfl rfl ts25 ta25 (by first | rfl | simp) (by intro h; cases h)) rfl ?_
      refine DT_fcall0 rfl rfl cl17 ((c_toDb d).pcall) rfl rfl ?_
      refine DT_qcall hT rfl rfl cl20 (c_eqDb d) (fun L2 => .cons (.raw (l := LD) (cs := cs1) hx hg1.len (injD_agL d)) (.cons (.rd .d) .nil)) rfl (by kernel_rfl) ?_
      refine DT_ev rfl (EA_not rfl) rfl ?_
      refine DTi.nil ?_
      refine hK12 _ _ _ ?_
      refine AC_cond rfl (fun hc3 => ?_) (fun hc3 => ?_)
      · skip
        exact absurd hc3 (by simp)
      · skip
        refine AC_skip ?_
        refine hK11 _ _ _ ?_
        refine AC_seq fun K13 hK13 => ?_
        refine AC_region ?_
        refine AL_ev (Ev_assign) rfl ?_
        refine AL_nil ?_
        refine hK13 _ _ _ ?_
        refine AC_ret ?_
        exact ret_okX hX1 hdm (.tmp rfl rfl .nil) (.cons .d .nil) rfl

end Go.Proofs.YtleahipnknainaaDoor
