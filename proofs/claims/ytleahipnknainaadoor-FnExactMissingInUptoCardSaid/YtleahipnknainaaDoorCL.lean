/- Contracts of functions. -/
import Derived.Test.YtleahipnknainaaDoorMt
import Derived.Test.YtleahipnknainaaDoorOk
import Derived.Test.YtleahipnknainaaDoorWn
import Derived.Test.YtleahipnknainaaDoorEng27
import Derived.Test.YtleahipnknainaaDoorCs
import Derived.Test.YtleahipnknainaaDoorTy
import Derived.Test.YtleahipnknainaaDoorCK
set_option linter.unusedVariables false
set_option linter.unusedSimpArgs false
namespace Go.Proofs.YtleahipnknainaaDoor
open Go.Eng

set_option maxHeartbeats 1000000 in
set_option maxRecDepth 4000 in
theorem c_indexF (g : Cl → Bool) (kk : FuncId) (caps : List D) (hcl : Callable Tryd.prog kk) (hna : caps.all (fun d => !d.isAgg) = true) (xs : List Cl) (hto : ∀ c ∈ xs, PCall Tryd.prog kk ([injC c] ++ caps) (· = [.c (.bool (g c))])) : PCall Tryd.prog 106 [.sl LC (injCs xs), .fn kk caps] (· = [.c (.int .i64 (idxF g xs 0))]) := by
  refine PCall_of (n := 19) Tryd.func106 rfl rfl (Nat.le_of_ble_eq_true rfl) fun C hdm hT0 => ?_
  have hT := hT0
  refine AC_seq fun K1 hK1 => ?_
  refine AC_region ?_
  refine AL_ev (Ev_assign) rfl ?_
  refine AL_nil ?_
  refine hK1 _ _ _ ?_
  refine AC_seq fun K2 hK2 => ?_
  refine AC_seq fun K3 hK3 => ?_
  refine AC_region ?_
  refine AL_ev (Ev_move) rfl ?_
  first | refine AL_lim (x := (Operand.tmp 6)) rfl fun hl1 => ?_ | refine AL_limB (x := (Operand.tmp 6)) rfl rfl (by first | rfl | (simp; done) | (simp; omega)) fun hl1 => ?_ | have hl1 := True.intro
  try simp only [injs_length, ints_length, strs_length, injCs_length, List.length_map] at hl1
  first | refine AL_ev (Ev_len_injCs te28 rfl) rfl ?_ | refine AL_ev (Ev_len_sl te28 rfl) rfl ?_ | refine AL_ev (Ev_len_ref te28 rfl) rfl ?_ | refine AL_ev (Ev_len_nil te28 rfl) rfl ?_ | refine AL_ev (Ev_len_c te28 rfl) rfl ?_
  refine AL_ev (Ev_move) rfl ?_
  refine AL_nil ?_
  refine hK3 _ _ _ ?_
  refine AC_block ?_
  refine AC_loopS [0, 1, 7] (Nat) (fun j => [(8, i64 j)]) (fun j => []) (fun st => xs.length - st) (fun j => j ≤ xs.length ∧ idxF g xs 0 = idxF g (xs.drop j) j) (0) ?_ ?_ ?_
  · skip
    exact enterS [] rfl rfl BxTo_nil (SlTo_cons (by first | exact .rd .d | exact Vw_int (by first | rfl | assumption | omega | (simp; done) | (simp; omega)) | exact Vw_c (by first | rfl | (simp; done) | simp_all) | exact .any) (SlTo_cons (by first | exact .rd .d | exact .any) (SlTo_cons (by first | exact .rd .d | exact .any) (SlTo_cons (by first | exact .rd .d | exact .any) SlTo_nil))))
  · skip
    exact ⟨Nat.zero_le _, by simp⟩
  rintro j ⟨hj, hI⟩
  show AC _ _ _ _ _ (FS [0, 1, 7] _ [(8, i64 j)]) []
  refine AC_seq fun K4 hK4 => ?_
  refine AC_region ?_
  refine AL_ev (Ev_lss rfl rfl) rfl ?_
  refine AL_nil ?_
  refine hK4 _ _ _ ?_
  refine AC_seq fun K5 hK5 => ?_
  refine AC_cond rfl (fun hc1 => ?_) (fun hc1 => ?_)
  · skip
    have hlt : j < xs.length := by simpa using hc1
    obtain ⟨u, hu⟩ : ∃ x, xs[j]? = some x := ⟨_, List.getElem?_eq_getElem hlt⟩
    have hu2 := injCs_get hu
    have hdr := drop_get hu
    refine AC_skip ?_
    refine hK5 _ _ _ ?_
    refine AC_seq fun K6 hK6 => ?_
    refine AC_block ?_
    refine AC_seq fun K7 hK7 => ?_
    refine AC_region ?_
    refine AL_ev (Ev_move) rfl ?_
    refine AL_ev (Ev_assign) rfl ?_
    refine AL_nil ?_
    refine hK7 _ _ _ ?_
    refine AC_seq fun K8 hK8 => ?_
    refine AC_region ?_
    refine AL_ev (Ev_move) rfl ?_
    refine AL_ev (Ev_move) rfl ?_
    refine AL_ev (Ev_move) rfl ?_
    first | refine AL_ev (Ev_ix_sl rfl rfl te28 ts68 (by omega) (by assumption)) rfl ?_ | refine AL_ev (Ev_ix_ref rfl rfl te28 ts68 (by omega) (by first | omega | (simp; omega))) rfl ?_
    first | refine AL_ev (Ev_load_ptr rfl rfl rfl rfl rfl rfl ts68 ta68 (by first | rfl | simp) (by intro h; cases h)) rfl ?_ | refine AL_ev (Ev_load_rp rfl rfl rfl ts68 ta68 (by first | rfl | simp) (by intro h; cases h)) rfl ?_
    refine AL_fcall hT rfl hna hcl (hto u (List.mem_of_getElem? hu)) rfl rfl ?_
    refine AL_nil ?_
    refine hK8 _ _ _ ?_
    refine AC_cond rfl (fun hc2 => ?_) (fun hc2 => ?_)
    · skip
      refine AC_seq fun K9 hK9 => ?_
      refine AC_region ?_
      refine AL_ev (Ev_move) rfl ?_
      refine AL_ev (Ev_assign) rfl ?_
      refine AL_nil ?_
      refine hK9 _ _ _ ?_
      refine AC_ret ?_
      refine ret_ok hdm (.tmp rfl rfl .nil) (.cons .d .nil) ?_
      try rw [hI]
      try rw [hdr]
      try simp_all [List.length_pos_iff, idxF]
      try omega
    · skip
      refine AC_skip ?_
      refine hK6 _ _ _ ?_
      refine AC_region ?_
      first | refine AL_ev (Ev_add rfl rfl _ (wrap_id (by first | omega | (simp; omega)) (by first | omega | (simp; omega)))) rfl ?_ | refine AL_ev (Ev_add rfl rfl _ rfl) rfl ?_
      refine AL_ev (Ev_move) rfl ?_
      refine AL_nil ?_
      refine closeS (j + 1) [] rfl rfl (by show xs.length - (j + 1) < xs.length - j; omega) ⟨hlt, ?_⟩ BxTo_nil (SlTo_cons (by first | exact .rd .d | exact Vw_int (by first | rfl | assumption | omega | (simp; done) | (simp; omega)) | exact Vw_c (by first | rfl | (simp; done) | simp_all) | exact .any) (SlTo_cons (by first | exact .rd .d | exact .any) (SlTo_cons (by first | exact .rd .d | exact .any) (SlTo_cons (by first | exact .rd .d | exact .any) SlTo_nil))))
      rw [hI]
      try rw [hdr]
      try simp_all [idxF]
      try omega
  · skip
    have hj2 : j = xs.length := by
      have : ¬ j < xs.length := by simpa using hc1
      omega
    subst hj2
    rw [List.drop_length] at hI
    refine AC_exit ?_
    refine hK2 _ _ _ ?_
    refine AC_seq fun K10 hK10 => ?_
    refine AC_region ?_
    refine AL_ev (Ev_assign) rfl ?_
    refine AL_nil ?_
    refine hK10 _ _ _ ?_
    refine AC_ret ?_
    refine ret_ok hdm (.tmp rfl rfl .nil) (.cons .d .nil) ?_
    try rw [hI]
    try rw [hdr]
    try simp_all [List.length_pos_iff, idxF]
    try omega

set_option maxHeartbeats 1000000 in
set_option maxRecDepth 4000 in
theorem c_containsF (g : Cl → Bool) (kk : FuncId) (caps : List D) (hcl : Callable Tryd.prog kk) (hna : caps.all (fun d => !d.isAgg) = true) (xs : List Cl) (hto : ∀ c ∈ xs, PCall Tryd.prog kk ([injC c] ++ caps) (· = [.c (.bool (g c))])) : PCall Tryd.prog 79 [.sl LC (injCs xs), .fn kk caps] (· = [.c (.bool (xs.any g))]) := by
  refine PCall_of (n := 9) Tryd.func79 rfl rfl (Nat.le_of_ble_eq_true rfl) fun C hdm hT0 => ?_
  have hT := hT0
  refine AC_seq fun K1 hK1 => ?_
  refine AC_region ?_
  refine AL_ev (Ev_assign) rfl ?_
  refine AL_nil ?_
  refine hK1 _ _ _ ?_
  refine AC_seq fun K2 hK2 => ?_
  refine AC_region ?_
  refine AL_ev (Ev_move) rfl ?_
  refine AL_ev (Ev_move) rfl ?_
  refine AL_fcall0 hT rfl cl106 (c_indexF g kk caps hcl hna xs hto) rfl rfl ?_
  refine AL_ev (Ev_geq rfl rfl) rfl ?_
  refine AL_ev (Ev_assign) rfl ?_
  refine AL_nil ?_
  refine hK2 _ _ _ ?_
  refine AC_ret ?_
  refine ret_ok hdm (.tmp rfl rfl .nil) (.cons .d .nil) ?_
  rw [idxF_any]

set_option maxHeartbeats 1000000 in
set_option maxRecDepth 4000 in
theorem c_known1 (p : ByteArray) (c : Cl) (hb : bulk c.h ≤ 1099511627776) : PCall Tryd.prog 118 [injC c, .rp .one (.c (.string p)) []] (· = [.c (.bool (decide (predS c.h = p)))]) := by
  obtain ⟨h, b, f⟩ := c
  refine PCall_of (n := 9) Tryd.func118 rfl rfl (Nat.le_of_ble_eq_true rfl) fun C hdm hT0 => ?_
  have hT := hT0
  refine AC_seq fun K1 hK1 => ?_
  refine AC_region ?_
  refine AL_box (Lay.st [(Lay.st [.one, .one, .one, .one]), (Lay.st [.one, .one, .one, .one]), .one]) (nf rfl) rfl (by first | rfl | simp [Lay.len, Lay.lens]) _ rfl rfl ?_
  refine AL_ev (Ev_assign) rfl ?_
  refine AL_nil ?_
  refine hK1 _ _ _ ?_
  refine AC_seq fun K2 hK2 => ?_
  refine AC_draw hT follows [0, 1, 2, 3, 4, 5] (by kernel_rfl) ?_
  first | refine DT_ev rfl (EA_fa_ptr rfl fa68_0 rfl rfl) rfl ?_ | refine DT_ev rfl (EA_fa_rp rfl fa68_0 rfl rfl) rfl ?_
  first | refine DT_ev rfl (EA_load_ptr rfl rfl rfl rfl rfl rfl ts45 ta45 (by first | rfl | simp) (by intro h; cases h)) rfl ?_ | refine DT_ev rfl (EA_load_rp rfl rfl rfl ts45 ta45 (by first | rfl | simp) (by intro h; cases h)) rfl ?_
  refine DT_fcall0 rfl rfl cl63 (c_predOf h hb) rfl rfl ?_
  first | refine DT_ev rfl (EA_load_ptr rfl rfl rfl rfl rfl rfl ts9 ta9 rfl (fun _ => rfl)) rfl ?_ | refine DT_ev rfl (EA_load_rp rfl rfl rfl ts9 ta9 rfl (fun _ => rfl)) rfl ?_
  refine DT_ev rfl (EA_seql rfl rfl) rfl ?_
  refine DT_ev rfl (EA_assign) rfl ?_
  refine DTi.nil ?_
  refine hK2 _ _ _ ?_
  refine AC_ret ?_
  exact ret_ok hdm (.tmp rfl rfl .nil) (.cons .d .nil) rfl

set_option maxHeartbeats 1000000 in
set_option maxRecDepth 4000 in
theorem c_known (d : Dbt) (p : ByteArray) (hb : bulkD d ≤ 1048576) : PCall Tryd.prog 92 [injD d, .c (.string p)] (· = [.c (.bool (knownB d p))]) := by
  obtain ⟨cs, op⟩ := d
  obtain ⟨hnc, hbc, hno, hbo⟩ := bulkD_bd hb
  refine PCall_of (n := 15) Tryd.func92 rfl rfl (Nat.le_of_ble_eq_true rfl) fun C hdm hT0 => ?_
  have hT := hT0
  refine AC_seq fun K1 hK1 => ?_
  refine AC_region ?_
  refine AL_box (Lay.st [.one, .one]) (nf rfl) rfl (by first | rfl | simp [Lay.len, Lay.lens]) _ rfl rfl ?_
  refine AL_box .one (nf rfl) rfl (by first | rfl | simp [Lay.len, Lay.lens]) _ rfl rfl ?_
  refine AL_ev (Ev_assign) rfl ?_
  refine AL_nil ?_
  refine hK1 _ _ _ ?_
  refine AC_seq fun K2 hK2 => ?_
  refine AC_wk (Wk_to [] [(2, .d (.rp LD (injD ⟨cs, op⟩) [])), (3, .d (.rp .one (.c (.string p)) []))] [] rfl rfl BxTo_nil (SlTo_cons (by first | exact .rd (.ptr (srcFree rfl) rfl rfl rfl .d) | exact .rd .d) (SlTo_cons (by first | exact .rd (.ptr (srcFree rfl) rfl rfl rfl .d) | exact .rd .d) SlTo_nil)) ?_)
  refine AC_region ?_
  first | refine AL_ev (Ev_fa_ptr rfl fa30_1 rfl rfl) rfl ?_ | refine AL_ev (Ev_fa_rp rfl fa30_1 rfl rfl) rfl ?_
  first | refine AL_ev (Ev_load_ptr rfl rfl rfl rfl rfl rfl ts23 ta23 rfl (fun _ => rfl)) rfl ?_ | refine AL_ev (Ev_load_rp rfl rfl rfl ts23 ta23 rfl (fun _ => rfl)) rfl ?_
  first | refine AL_ev (Ev_load_ptr rfl rfl rfl rfl rfl rfl ts9 ta9 rfl (fun _ => rfl)) rfl ?_ | refine AL_ev (Ev_load_rp rfl rfl rfl ts9 ta9 rfl (fun _ => rfl)) rfl ?_
  refine AL_fcall0 hT rfl cl85 (c_containsS op p) rfl rfl ?_
  refine AL_ev (Ev_move) rfl ?_
  refine AL_bool 9 rfl (fun hg1 => ?_) (fun hg1 => ?_)
  · skip
    refine AL_guard_f rfl rfl rfl rfl ?_
    refine AL_guard_f rfl rfl rfl rfl ?_
    refine AL_guard_f rfl rfl rfl rfl ?_
    refine AL_guard_f rfl rfl rfl rfl ?_
    refine AL_ev (Ev_pick rfl) rfl ?_
    refine AL_ev (Ev_assign) rfl ?_
    refine AL_nil ?_
    refine hK2 _ _ _ ?_
    refine AC_ret ?_
    refine ret_ok hdm (.tmp rfl rfl .nil) (.cons .d .nil) ?_
    simp_all [knownB]
  · skip
    refine AL_guard_t rfl rfl rfl ?_
    first | refine AL_ev (Ev_fa_ptr rfl fa30_0 rfl rfl) rfl ?_ | refine AL_ev (Ev_fa_rp rfl fa30_0 rfl rfl) rfl ?_
    refine AL_guard_t rfl rfl rfl ?_
    first | refine AL_ev (Ev_load_ptr rfl rfl rfl rfl rfl rfl ts28 ta28 rfl (fun _ => rfl)) rfl ?_ | refine AL_ev (Ev_load_rp rfl rfl rfl ts28 ta28 rfl (fun _ => rfl)) rfl ?_
    refine AL_guard_t rfl rfl rfl ?_
    refine AL_ev (Ev_func (ds := [.rp .one (.c (.string p)) []]) rfl rfl) rfl ?_
    refine AL_guard_t rfl rfl rfl ?_
    refine AL_fcall0 hT rfl cl79 (c_containsF (fun c => decide (predS c.h = p)) 118 [.rp .one (.c (.string p)) []] cl118 rfl cs (fun c hc => c_known1 p c (by have := (bulkCs_bd hc hbc).1; omega))) rfl rfl ?_
    refine AL_ev (Ev_pick rfl) rfl ?_
    refine AL_ev (Ev_assign) rfl ?_
    refine AL_nil ?_
    refine hK2 _ _ _ ?_
    refine AC_ret ?_
    refine ret_ok hdm (.tmp rfl rfl .nil) (.cons .d .nil) ?_
    simp_all [knownB]

set_option maxHeartbeats 1000000 in
set_option maxRecDepth 4000 in
theorem c_specKnown (d : Dbt) (p : ByteArray) (hb : bulkD d ≤ 1048576) : PCall Tryd.prog 91 [injD d, .c (.string p)] (· = [.c (.bool (knownB d p))]) := by
  obtain ⟨cs, op⟩ := d
  refine PCall_of (n := 25) Tryd.func91 rfl rfl (Nat.le_of_ble_eq_true rfl) fun C hdm hT0 => ?_
  have hT := hT0
  refine AC_seq fun K1 hK1 => ?_
  refine AC_region ?_
  refine AL_box (Lay.st [.one, .one]) (nf rfl) rfl (by first | rfl | simp [Lay.len, Lay.lens]) _ rfl rfl ?_
  refine AL_ev (Ev_assign) rfl ?_
  refine AL_nil ?_
  refine hK1 _ _ _ ?_
  refine AC_seq fun K2 hK2 => ?_
  refine AC_seq fun K3 hK3 => ?_
  refine AC_region ?_
  refine AL_ev (Ev_assign) rfl ?_
  refine AL_nil ?_
  refine hK3 _ _ _ ?_
  refine AC_block ?_
  refine AC_loopS [1] (Nat) (fun j => [(5, i64 j), (2, .d (.rp (Lay.st [.one, .one]) (injD ⟨cs, op⟩) []))]) (fun j => []) (fun st => op.length - st) (fun j => j ≤ op.length ∧ hasS op p = hasS (op.drop j) p) (0) ?_ ?_ ?_
  · skip
    exact enterS [] rfl rfl BxTo_nil (SlTo_cons (by first | exact .rd .d | exact Vw_int (by first | rfl | assumption | omega | (simp; done) | (simp; omega)) | exact Vw_c (by first | rfl | (simp; done) | simp_all) | exact .any) (SlTo_cons (by first | exact .rd (.ptr (srcFree rfl) rfl rfl rfl .d) | exact .rd .d) (SlTo_cons (by first | exact .rd .d | exact .any) SlTo_nil)))
  · skip
    exact ⟨Nat.zero_le _, by simp⟩
  rintro j ⟨hj, hI⟩
  show AC _ _ _ _ _ (FS [1] _ [(5, i64 j), (2, .d (.rp (Lay.st [.one, .one]) (injD ⟨cs, op⟩) []))]) []
  refine AC_seq fun K4 hK4 => ?_
  refine AC_seq fun K5 hK5 => ?_
  refine AC_region ?_
  refine AL_ev (Ev_move) rfl ?_
  first | refine AL_ev (Ev_fa_ptr rfl fa30_1 rfl rfl) rfl ?_ | refine AL_ev (Ev_fa_rp rfl fa30_1 rfl rfl) rfl ?_
  first | refine AL_ev (Ev_load_ptr rfl rfl rfl rfl rfl rfl ts23 ta23 rfl (fun _ => rfl)) rfl ?_ | refine AL_ev (Ev_load_rp rfl rfl rfl ts23 ta23 rfl (fun _ => rfl)) rfl ?_
  first | refine AL_lim (x := (Operand.tmp 8)) rfl fun hl1 => ?_ | refine AL_limB (x := (Operand.tmp 8)) rfl rfl (by first | rfl | (simp; done) | (simp; omega)) fun hl1 => ?_ | have hl1 := True.intro
  try simp only [injs_length, ints_length, strs_length, injCs_length, List.length_map] at hl1
  first | refine AL_ev (Ev_len_strs te23 rfl) rfl ?_ | refine AL_ev (Ev_len_sl te23 rfl) rfl ?_ | refine AL_ev (Ev_len_ref te23 rfl) rfl ?_ | refine AL_ev (Ev_len_nil te23 rfl) rfl ?_ | refine AL_ev (Ev_len_c te23 rfl) rfl ?_
  refine AL_ev (Ev_lss rfl rfl) rfl ?_
  refine AL_nil ?_
  refine hK5 _ _ _ ?_
  refine AC_cond rfl (fun hc1 => ?_) (fun hc1 => ?_)
  · skip
    have hlt : j < op.length := by simpa using hc1
    obtain ⟨u, hu⟩ : ∃ x, op[j]? = some x := ⟨_, List.getElem?_eq_getElem hlt⟩
    have hu2 := strs_get hu
    have hdr := drop_get hu
    refine AC_skip ?_
    refine hK4 _ _ _ ?_
    refine AC_seq fun K6 hK6 => ?_
    refine AC_block ?_
    refine AC_seq fun K7 hK7 => ?_
    refine AC_region ?_
    first | refine AL_ev (Ev_fa_ptr rfl fa30_1 rfl rfl) rfl ?_ | refine AL_ev (Ev_fa_rp rfl fa30_1 rfl rfl) rfl ?_
    first | refine AL_ev (Ev_load_ptr rfl rfl rfl rfl rfl rfl ts23 ta23 rfl (fun _ => rfl)) rfl ?_ | refine AL_ev (Ev_load_rp rfl rfl rfl ts23 ta23 rfl (fun _ => rfl)) rfl ?_
    refine AL_ev (Ev_move) rfl ?_
    first | refine AL_ev (Ev_ix_sl rfl rfl te23 ts9 (by omega) (by assumption)) rfl ?_ | refine AL_ev (Ev_ix_ref rfl rfl te23 ts9 (by omega) (by first | omega | (simp; omega))) rfl ?_
    first | refine AL_ev (Ev_load_ptr rfl rfl rfl rfl rfl rfl ts9 ta9 rfl (fun _ => rfl)) rfl ?_ | refine AL_ev (Ev_load_rp rfl rfl rfl ts9 ta9 rfl (fun _ => rfl)) rfl ?_
    refine AL_ev (Ev_move) rfl ?_
    refine AL_ev (Ev_seql rfl rfl) rfl ?_
    refine AL_nil ?_
    refine hK7 _ _ _ ?_
    refine AC_cond rfl (fun hc2 => ?_) (fun hc2 => ?_)
    · skip
      refine AC_seq fun K8 hK8 => ?_
      refine AC_region ?_
      refine AL_ev (Ev_assign) rfl ?_
      refine AL_nil ?_
      refine hK8 _ _ _ ?_
      refine AC_ret ?_
      refine ret_ok hdm (.tmp rfl rfl .nil) (.cons .d .nil) ?_
      rw [knownB]
      simp_all [hasS]
    · skip
      refine AC_skip ?_
      refine hK6 _ _ _ ?_
      refine AC_region ?_
      refine AL_ev (Ev_move) rfl ?_
      first | refine AL_ev (Ev_add rfl rfl _ (wrap_id (by first | omega | (simp; omega)) (by first | omega | (simp; omega)))) rfl ?_ | refine AL_ev (Ev_add rfl rfl _ rfl) rfl ?_
      refine AL_ev (Ev_assign) rfl ?_
      refine AL_nil ?_
      refine closeS (j + 1) [] rfl rfl (by show op.length - (j + 1) < op.length - j; omega) ⟨hlt, ?_⟩ BxTo_nil (SlTo_cons (by first | exact .rd .d | exact Vw_int (by first | rfl | assumption | omega | (simp; done) | (simp; omega)) | exact Vw_c (by first | rfl | (simp; done) | simp_all) | exact .any) (SlTo_cons (by first | exact .rd (.ptr (srcFree rfl) rfl rfl rfl .d) | exact .rd .d) (SlTo_cons (by first | exact .rd .d | exact .any) SlTo_nil)))
      rw [hI]
      try rw [hdr]
      try simp_all [hasS]
      try omega
  · skip
    have hj2 : j = op.length := by
      have : ¬ j < op.length := by simpa using hc1
      omega
    subst hj2
    rw [List.drop_length] at hI
    refine AC_exit ?_
    refine hK2 _ _ _ ?_
    refine AC_seq fun K9 hK9 => ?_
    refine AC_region ?_
    first | refine AL_ev (Ev_load_ptr rfl rfl rfl rfl rfl rfl ts30 ta30 (by first | rfl | simp) (by intro h; cases h)) rfl ?_ | refine AL_ev (Ev_load_rp rfl rfl rfl ts30 ta30 (by first | rfl | simp) (by intro h; cases h)) rfl ?_
    refine AL_ev (Ev_move) rfl ?_
    refine AL_fcall0 hT rfl cl86 (c_specClausesOf ⟨cs, op⟩ p (by omega)) rfl rfl ?_
    first | refine AL_lim (x := (Operand.tmp 22)) rfl fun hl2 => ?_ | refine AL_limB (x := (Operand.tmp 22)) rfl rfl (by first | rfl | (simp; done) | (simp; omega)) fun hl2 => ?_ | have hl2 := True.intro
    try simp only [injs_length, ints_length, strs_length, injCs_length, List.length_map] at hl2
    first | refine AL_ev (Ev_len_injCs te28 rfl) rfl ?_ | refine AL_ev (Ev_len_sl te28 rfl) rfl ?_ | refine AL_ev (Ev_len_ref te28 rfl) rfl ?_ | refine AL_ev (Ev_len_nil te28 rfl) rfl ?_ | refine AL_ev (Ev_len_c te28 rfl) rfl ?_
    refine AL_ev (Ev_gtr rfl rfl) rfl ?_
    refine AL_ev (Ev_assign) rfl ?_
    refine AL_nil ?_
    refine hK9 _ _ _ ?_
    refine AC_ret ?_
    refine ret_ok hdm (.tmp rfl rfl .nil) (.cons .d .nil) ?_
    rw [hasS] at hI
    simp only [knownB, hI, Bool.false_or]
    rw [← clsOf_any]

set_option maxHeartbeats 1000000 in
set_option maxRecDepth 4000 in
theorem c_missingIn (d : Dbt) (hb : bulkD d ≤ 1048576) : NCall Tryd.prog 53 [injD d] 9 (missIn d) := by
  have hw := wC_bulk d.cs
  obtain ⟨hnc, hbc, hno, hbo⟩ := bulkD_bd (cs := d.cs) (op := d.op) hb
  have hpl := predsF_len d.cs []
  have hcu := fun u => callsOf_len d u
  simp only [List.length_nil] at hpl
  obtain ⟨ps, hps⟩ : ∃ ps, ps = predsF d.cs [] := ⟨_, rfl⟩
  have hmd : missIn d = missP d ps [] := by rw [hps]; rfl
  rw [← hps] at hpl
  refine NCall_of (n := 33) Tryd.func53 rfl rfl (Nat.le_of_ble_eq_true rfl) fun C hdm hT => ?_
  refine AC_seq fun K1 hK1 => ?_
  refine AC_region ?_
  refine AL_box (Lay.st [.one, .one]) (nf rfl) rfl (by first | rfl | simp [Lay.len, Lay.lens]) _ rfl rfl ?_
  refine AL_ev (Ev_assign) rfl ?_
  refine AL_nil ?_
  refine hK1 _ _ _ ?_
  refine AC_seq fun K2 hK2 => ?_
  refine AC_region ?_
  refine AL_ev (Ev_assign) rfl ?_
  refine AL_nil ?_
  refine hK2 _ _ _ ?_
  refine AC_seq fun K3 hK3 => ?_
  refine AC_seq fun K4 hK4 => ?_
  refine AC_region ?_
  first | refine AL_ev (Ev_load_ptr rfl rfl rfl rfl rfl rfl ts30 ta30 (by first | rfl | simp) (by intro h; cases h)) rfl ?_ | refine AL_ev (Ev_load_rp rfl rfl rfl ts30 ta30 (by first | rfl | simp) (by intro h; cases h)) rfl ?_
  refine AL_fcall0 hT rfl cl18 (hps ▸ (c_predsOf d hb).pcall) rfl rfl ?_
  first | refine AL_lim (x := (Operand.tmp 9)) rfl fun hl1 => ?_ | refine AL_limB (x := (Operand.tmp 9)) rfl rfl (by first | rfl | (simp; done) | (simp; omega)) fun hl1 => ?_ | have hl1 := True.intro
  try simp only [injs_length, ints_length, strs_length, injCs_length, List.length_map] at hl1
  first | refine AL_ev (Ev_len_strs te23 rfl) rfl ?_ | refine AL_ev (Ev_len_sl te23 rfl) rfl ?_ | refine AL_ev (Ev_len_ref te23 rfl) rfl ?_ | refine AL_ev (Ev_len_nil te23 rfl) rfl ?_ | refine AL_ev (Ev_len_c te23 rfl) rfl ?_
  refine AL_ev (Ev_move) rfl ?_
  refine AL_nil ?_
  refine hK4 _ _ _ ?_
  refine AC_block ?_
  refine AC_loopS [9, 10] (Nat × List ByteArray) (fun ⟨j, out⟩ => [(11, i64 j), (3, .ref .one 0 0 (strs out).length), (1, .d (.rp (Lay.st [.one, .one]) (injD d) []))]) (fun ⟨j, out⟩ => [some ⟨9, .one, (strs out).map V.d⟩]) (fun st => ps.length - st.1) (fun ⟨j, out⟩ => j ≤ ps.length ∧ (missIn d = missP d (ps.drop j) out ∧ OkR d out)) ((0, [])) ?_ ?_ ?_
  · skip
    refine Wk.then (Wk_nil_slot 3 9 .one rfl 1 rfl ?_)
    exact enterS [some 1] rfl rfl (BxTo_some rfl rfl rfl rfl (by first | exact .nil | exact VwL_dd (by first | rfl | simp) | exact VwL_app (by first | rfl | simp) | exact VwL_of (by first | rfl | simp)) BxTo_nil) (SlTo_cons (by first | exact .rd .d | exact Vw_int (by first | rfl | assumption | omega | (simp; done) | (simp; omega)) | exact Vw_c (by first | rfl | (simp; done) | simp_all) | exact .any) (SlTo_cons (Vw_refe rfl (by first | rfl | simp)) (SlTo_cons (by first | exact .rd (.ptr (srcFree rfl) rfl rfl rfl .d) | exact .rd .d) (SlTo_cons (by first | exact .rd .d | exact .any) (SlTo_cons (by first | exact .rd .d | exact .any) SlTo_nil)))))
  · skip
    exact ⟨Nat.zero_le _, by simpa using hmd, List.nodup_nil, fun _ h => by cases h⟩
  rintro ⟨j, out⟩ ⟨hj, ⟨hI, hK⟩⟩
  show AC _ _ _ _ _ (FS [9, 10] _ [(11, i64 j), (3, .ref .one 0 0 (strs out).length), (1, .d (.rp (Lay.st [.one, .one]) (injD d) []))]) [some ⟨9, .one, (strs out).map V.d⟩]
  refine AC_seq fun K5 hK5 => ?_
  refine AC_region ?_
  refine AL_ev (Ev_lss rfl rfl) rfl ?_
  refine AL_nil ?_
  refine hK5 _ _ _ ?_
  refine AC_seq fun K6 hK6 => ?_
  refine AC_cond rfl (fun hc1 => ?_) (fun hc1 => ?_)
  · skip
    have hlt : j < ps.length := by simpa using hc1
    obtain ⟨u, hu⟩ : ∃ x, ps[j]? = some x := ⟨_, List.getElem?_eq_getElem hlt⟩
    have hu2 := strs_get hu
    have hdr := drop_get hu
    rw [hdr, missP] at hI
    have hKl := hK.len
    have hcv := hcu u
    refine AC_skip ?_
    refine hK6 _ _ _ ?_
    refine AC_seq fun K7 hK7 => ?_
    refine AC_block ?_
    refine AC_seq fun K8 hK8 => ?_
    refine AC_region ?_
    first | refine AL_ev (Ev_ix_sl rfl rfl te23 ts9 (by omega) (by assumption)) rfl ?_ | refine AL_ev (Ev_ix_ref rfl rfl te23 ts9 (by omega) (by first | omega | (simp; omega))) rfl ?_
    first | refine AL_ev (Ev_load_ptr rfl rfl rfl rfl rfl rfl ts9 ta9 rfl (fun _ => rfl)) rfl ?_ | refine AL_ev (Ev_load_rp rfl rfl rfl ts9 ta9 rfl (fun _ => rfl)) rfl ?_
    refine AL_ev (Ev_assign) rfl ?_
    refine AL_nil ?_
    refine hK8 _ _ _ ?_
    refine AC_seq fun K9 hK9 => ?_
    refine AC_region ?_
    first | refine AL_ev (Ev_load_ptr rfl rfl rfl rfl rfl rfl ts30 ta30 (by first | rfl | simp) (by intro h; cases h)) rfl ?_ | refine AL_ev (Ev_load_rp rfl rfl rfl ts30 ta30 (by first | rfl | simp) (by intro h; cases h)) rfl ?_
    refine AL_ev (Ev_move) rfl ?_
    refine AL_fcall0 hT rfl cl45 ((c_callsOf d u hb).pcall) rfl rfl ?_
    first | refine AL_lim (x := (Operand.tmp 17)) rfl fun hl2 => ?_ | refine AL_limB (x := (Operand.tmp 17)) rfl rfl (by first | rfl | (simp; done) | (simp; omega)) fun hl2 => ?_ | have hl2 := True.intro
    try simp only [injs_length, ints_length, strs_length, injCs_length, List.length_map] at hl2
    first | refine AL_ev (Ev_len_strs te23 rfl) rfl ?_ | refine AL_ev (Ev_len_sl te23 rfl) rfl ?_ | refine AL_ev (Ev_len_ref te23 rfl) rfl ?_ | refine AL_ev (Ev_len_nil te23 rfl) rfl ?_ | refine AL_ev (Ev_len_c te23 rfl) rfl ?_
    refine AL_ev (Ev_move) rfl ?_
    refine AL_nil ?_
    refine hK9 _ _ _ ?_
    refine AC_block ?_
    refine AC_loopS [1, 9, 10, 11, 17, 18] (Nat × List ByteArray) (fun ⟨i, ou2⟩ => [(19, i64 i), (3, .ref .one 0 0 (strs ou2).length)]) (fun ⟨i, ou2⟩ => [some ⟨9, .one, (strs ou2).map V.d⟩]) (fun st => (callsOf d u).length - st.1) (fun ⟨i, ou2⟩ => i ≤ (callsOf d u).length ∧ (addMiss d out (callsOf d u) = addMiss d ou2 ((callsOf d u).drop i) ∧ OkR d ou2)) ((0, out)) ?_ ?_ ?_
    · skip
      exact enterS [some 0] rfl rfl (BxTo_some rfl rfl rfl rfl (by first | exact .nil | exact VwL_dd (by first | rfl | simp) | exact VwL_app (by first | rfl | simp) | exact VwL_of (by first | rfl | simp)) BxTo_nil) (SlTo_cons (by first | exact .rd .d | exact Vw_int (by first | rfl | assumption | omega | (simp; done) | (simp; omega)) | exact Vw_c (by first | rfl | (simp; done) | simp_all) | exact .any) (SlTo_cons (Vw_refe rfl (by first | rfl | simp)) (SlTo_cons (by first | exact .rd .d | exact .any) (SlTo_cons (by first | exact .rd .d | exact .any) (SlTo_cons (by first | exact .rd .d | exact .any) (SlTo_cons (by first | exact .rd .d | exact .any) (SlTo_cons (by first | exact .rd .d | exact .any) (SlTo_cons (by first | exact .rd .d | exact .any) SlTo_nil))))))))
    · skip
      exact ⟨Nat.zero_le _, by simp, hK⟩
    rintro ⟨i, ou2⟩ ⟨hj, ⟨hI2, hK2⟩⟩
    show AC _ _ _ _ _ (FS [1, 9, 10, 11, 17, 18] _ [(19, i64 i), (3, .ref .one 0 0 (strs ou2).length)]) [some ⟨9, .one, (strs ou2).map V.d⟩]
    refine AC_seq fun K10 hK10 => ?_
    refine AC_region ?_
    refine AL_ev (Ev_lss rfl rfl) rfl ?_
    refine AL_nil ?_
    refine hK10 _ _ _ ?_
    refine AC_seq fun K11 hK11 => ?_
    refine AC_cond rfl (fun hc2 => ?_) (fun hc2 => ?_)
    · skip
      have hlt : i < (callsOf d u).length := by simpa using hc2
      obtain ⟨v, hu⟩ : ∃ x, (callsOf d u)[i]? = some x := ⟨_, List.getElem?_eq_getElem hlt⟩
      have hu2 := strs_get hu
      have hdr := drop_get hu
      rw [hdr] at hI2
      rw [addMiss] at hI2
      have hKl2 := hK2.len
      refine AC_skip ?_
      refine hK11 _ _ _ ?_
      refine AC_seq fun K12 hK12 => ?_
      refine AC_block ?_
      refine AC_seq fun K13 hK13 => ?_
      refine AC_region ?_
      first | refine AL_ev (Ev_ix_sl rfl rfl te23 ts9 (by omega) (by assumption)) rfl ?_ | refine AL_ev (Ev_ix_ref rfl rfl te23 ts9 (by omega) (by first | omega | (simp; omega))) rfl ?_
      first | refine AL_ev (Ev_load_ptr rfl rfl rfl rfl rfl rfl ts9 ta9 rfl (fun _ => rfl)) rfl ?_ | refine AL_ev (Ev_load_rp rfl rfl rfl ts9 ta9 rfl (fun _ => rfl)) rfl ?_
      refine AL_ev (Ev_assign) rfl ?_
      refine AL_nil ?_
      refine hK13 _ _ _ ?_
      refine AC_seq fun K14 hK14 => ?_
      refine AC_region ?_
      first | refine AL_ev (Ev_load_ptr rfl rfl rfl rfl rfl rfl ts30 ta30 (by first | rfl | simp) (by intro h; cases h)) rfl ?_ | refine AL_ev (Ev_load_rp rfl rfl rfl ts30 ta30 (by first | rfl | simp) (by intro h; cases h)) rfl ?_
      refine AL_ev (Ev_move) rfl ?_
      refine AL_fcall0 hT rfl cl92 (c_known d v hb) rfl rfl ?_
      refine AL_ev (Ev_not rfl) rfl ?_
      refine AL_nil ?_
      refine hK14 _ _ _ ?_
      refine AC_cond rfl (fun hc3 => ?_) (fun hc3 => ?_)
      · skip
        refine AC_region ?_
        refine AL_ev (Ev_move) rfl ?_
        refine AL_ev (Ev_move) rfl ?_
        first | refine AL_bcall hT _ _ [] rfl cl62 rfl rfl rfl rfl (c_once ou2 v (by omega)) rfl rfl (by first | rfl | (simp; done) | (simp; omega)) _ rfl rfl ?_ | refine AL_bcalln hT [] rfl cl62 rfl rfl rfl rfl (c_once ou2 v (by omega)) _ rfl rfl ?_
        refine AL_ev (Ev_assign) rfl ?_
        refine AL_nil ?_
        refine hK12 _ _ _ ?_
        refine AC_region ?_
        first | refine AL_ev (Ev_add rfl rfl _ (wrap_id (by first | omega | (simp; omega)) (by first | omega | (simp; omega)))) rfl ?_ | refine AL_ev (Ev_add rfl rfl _ rfl) rfl ?_
        refine AL_ev (Ev_move) rfl ?_
        refine AL_nil ?_
        refine closeS (i + 1, onceL ou2 v) [some 1] rfl rfl (by show (callsOf d u).length - (i + 1) < (callsOf d u).length - i; omega) ⟨hlt, ?_⟩ (BxTo_some rfl rfl rfl rfl (by first | exact VwL_app (by first | rfl | simp [ints, strs] | simp [ints, strs, injs_map]) | exact VwL_dd (by first | rfl | simp [ints, strs] | simp [ints, strs, injs_map]) | exact VwL_of (by first | rfl | simp [ints, strs] | simp [ints, strs, injs_map])) BxTo_nil) (SlTo_cons (by first | exact .rd .d | exact Vw_int (by first | rfl | assumption | omega | (simp; done) | (simp; omega)) | exact Vw_c (by first | rfl | (simp; done) | simp_all) | exact .any) (SlTo_cons (Vw_refe rfl (by first | rfl | simp | (simp; omega))) (SlTo_cons (by first | exact .rd .d | exact .any) (SlTo_cons (by first | exact .rd .d | exact .any) (SlTo_cons (by first | exact .rd .d | exact .any) (SlTo_cons (by first | exact .rd .d | exact .any) (SlTo_cons (by first | exact .rd .d | exact .any) (SlTo_cons (by first | exact .rd .d | exact .any) SlTo_nil))))))))
        exact ⟨by rw [hI2, if_neg (by simp_all)], hK2.once (callsOf_sub (List.mem_of_getElem? hu))⟩
      · skip
        refine AC_skip ?_
        refine hK12 _ _ _ ?_
        refine AC_region ?_
        first | refine AL_ev (Ev_add rfl rfl _ (wrap_id (by first | omega | (simp; omega)) (by first | omega | (simp; omega)))) rfl ?_ | refine AL_ev (Ev_add rfl rfl _ rfl) rfl ?_
        refine AL_ev (Ev_move) rfl ?_
        refine AL_nil ?_
        refine closeS (i + 1, ou2) [some 0] rfl rfl (by show (callsOf d u).length - (i + 1) < (callsOf d u).length - i; omega) ⟨hlt, ?_⟩ (BxTo_some rfl rfl rfl rfl (by first | exact VwL_app (by first | rfl | simp [ints, strs] | simp [ints, strs, injs_map]) | exact VwL_dd (by first | rfl | simp [ints, strs] | simp [ints, strs, injs_map]) | exact VwL_of (by first | rfl | simp [ints, strs] | simp [ints, strs, injs_map])) BxTo_nil) (SlTo_cons (by first | exact .rd .d | exact Vw_int (by first | rfl | assumption | omega | (simp; done) | (simp; omega)) | exact Vw_c (by first | rfl | (simp; done) | simp_all) | exact .any) (SlTo_cons (Vw_refe rfl (by first | rfl | simp | (simp; omega))) (SlTo_cons (by first | exact .rd .d | exact .any) (SlTo_cons (by first | exact .rd .d | exact .any) (SlTo_cons (by first | exact .rd .d | exact .any) (SlTo_cons (by first | exact .rd .d | exact .any) (SlTo_cons (by first | exact .rd .d | exact .any) (SlTo_cons (by first | exact .rd .d | exact .any) SlTo_nil))))))))
        exact ⟨by rw [hI2, if_pos (by simp_all)], hK2⟩
    · skip
      have hj2 : i = (callsOf d u).length := by
        have : ¬ i < (callsOf d u).length := by simpa using hc2
        omega
      subst hj2
      refine AC_exit ?_
      refine hK7 _ _ _ ?_
      refine AC_region ?_
      first | refine AL_ev (Ev_add rfl rfl _ (wrap_id (by first | omega | (simp; omega)) (by first | omega | (simp; omega)))) rfl ?_ | refine AL_ev (Ev_add rfl rfl _ rfl) rfl ?_
      refine AL_ev (Ev_move) rfl ?_
      refine AL_nil ?_
      refine closeS (j + 1, ou2) [some 0] rfl rfl (by show ps.length - (j + 1) < ps.length - j; omega) ⟨hlt, ?_⟩ (BxTo_some rfl rfl rfl rfl (by first | exact VwL_app (by first | rfl | simp [ints, strs] | simp [ints, strs, injs_map]) | exact VwL_dd (by first | rfl | simp [ints, strs] | simp [ints, strs, injs_map]) | exact VwL_of (by first | rfl | simp [ints, strs] | simp [ints, strs, injs_map])) BxTo_nil) (SlTo_cons (by first | exact .rd .d | exact Vw_int (by first | rfl | assumption | omega | (simp; done) | (simp; omega)) | exact Vw_c (by first | rfl | (simp; done) | simp_all) | exact .any) (SlTo_cons (Vw_refe rfl (by first | rfl | simp | (simp; omega))) (SlTo_cons (by first | exact .rd (.ptr (srcFree rfl) rfl rfl rfl .d) | exact .rd .d) (SlTo_cons (by first | exact .rd .d | exact .any) (SlTo_cons (by first | exact .rd .d | exact .any) SlTo_nil)))))
      rw [List.drop_length, addMiss] at hI2
      exact ⟨by rw [hI, hI2], hK2⟩
  · skip
    have hj2 : j = ps.length := by
      have : ¬ j < ps.length := by simpa using hc1
      omega
    subst hj2
    rw [List.drop_length] at hI
    refine AC_exit ?_
    refine hK3 _ _ _ ?_
    refine AC_seq fun K15 hK15 => ?_
    refine AC_region ?_
    refine AL_ev (Ev_move) rfl ?_
    refine AL_ev (Ev_assign) rfl ?_
    refine AL_nil ?_
    refine hK15 _ _ _ ?_
    refine AC_ret ?_
    rw [missP] at hI
    rw [hI]
    exact retn_ok hdm (.tmp rfl rfl .nil) rfl (by rfl) (by simp)

set_option maxHeartbeats 1000000 in
set_option maxRecDepth 4000 in
theorem c_specMissingIn (d : Dbt) (hb : bulkD d ≤ 1048576) : PCall Tryd.prog 52 [injD d] (· = [.sl .one (strs (missIn d))]) := by
  have hw := wC_bulk d.cs
  obtain ⟨hnc, hbc, hno, hbo⟩ := bulkD_bd (cs := d.cs) (op := d.op) hb
  have hpl := predsF_len d.cs []
  have hcu := fun u => callsOf_len d u
  simp only [List.length_nil] at hpl
  obtain ⟨ps, hps⟩ : ∃ ps, ps = predsF d.cs [] := ⟨_, rfl⟩
  have hmd : missIn d = missP d ps [] := by rw [hps]; rfl
  rw [← hps] at hpl
  refine PCall_of (n := 43) Tryd.func52 rfl rfl (Nat.le_of_ble_eq_true rfl) fun C hdm hT0 => ?_
  have hT := hT0
  refine AC_seq fun K1 hK1 => ?_
  refine AC_region ?_
  refine AL_box (Lay.st [.one, .one]) (nf rfl) rfl (by first | rfl | simp [Lay.len, Lay.lens]) _ rfl rfl ?_
  refine AL_ev (Ev_assign) rfl ?_
  refine AL_nil ?_
  refine hK1 _ _ _ ?_
  refine AC_seq fun K2 hK2 => ?_
  refine AC_region ?_
  first | refine AL_bD .one rfl te23 ts9 tz9 rfl rfl (by decide) (by decide) (by first | rfl | simp [lenDs, goodVs, goodV, V.known, Lay.len, Lay.lens]) rfl ?_ | refine AL_bV .one rfl te23 ts9 tz9 rfl rfl (by decide) (by decide) (by first | rfl | simp [lenDs, goodVs, goodV, V.known, Lay.len, Lay.lens]) _ rfl rfl ?_
  refine AL_ev (Ev_assign) rfl ?_
  refine AL_nil ?_
  refine hK2 _ _ _ ?_
  refine AC_seq fun K3 hK3 => ?_
  refine AC_region ?_
  first | refine AL_ev (Ev_load_ptr rfl rfl rfl rfl rfl rfl ts30 ta30 (by first | rfl | simp) (by intro h; cases h)) rfl ?_ | refine AL_ev (Ev_load_rp rfl rfl rfl ts30 ta30 (by first | rfl | simp) (by intro h; cases h)) rfl ?_
  refine AL_fcall0 hT rfl cl16 (hps ▸ c_specPredsOf d hb) rfl rfl ?_
  refine AL_ev (Ev_assign) rfl ?_
  refine AL_nil ?_
  refine hK3 _ _ _ ?_
  refine AC_seq fun K4 hK4 => ?_
  refine AC_seq fun K5 hK5 => ?_
  refine AC_region ?_
  refine AL_ev (Ev_assign) rfl ?_
  refine AL_nil ?_
  refine hK5 _ _ _ ?_
  refine AC_block ?_
  refine AC_loopS [4] (Nat × List ByteArray) (fun ⟨j, out⟩ => [(5, i64 j), (3, .d (.sl .one (strs out))), (1, .d (.rp (Lay.st [.one, .one]) (injD d) []))]) (fun ⟨j, out⟩ => []) (fun st => ps.length - st.1) (fun ⟨j, out⟩ => j ≤ ps.length ∧ (missIn d = missP d (ps.drop j) out ∧ OkR d out)) ((0, [])) ?_ ?_ ?_
  · skip
    exact enterS [] rfl rfl BxTo_nil (SlTo_cons (by first | exact .rd .d | exact Vw_int (by first | rfl | assumption | omega | (simp; done) | (simp; omega)) | exact Vw_c (by first | rfl | (simp; done) | simp_all) | exact .any) (SlTo_cons (by first | exact .rd .d | exact Vw_int (by first | rfl | assumption | omega | (simp; done) | (simp; omega)) | exact Vw_c (by first | rfl | (simp; done) | simp_all) | exact .any) (SlTo_cons (by first | exact .rd (.ptr (srcFree rfl) rfl rfl rfl .d) | exact .rd .d) (SlTo_cons (by first | exact .rd .d | exact .any) SlTo_nil))))
  · skip
    exact ⟨Nat.zero_le _, by simpa using hmd, List.nodup_nil, fun _ h => by cases h⟩
  rintro ⟨j, out⟩ ⟨hj, ⟨hI, hK⟩⟩
  show AC _ _ _ _ _ (FS [4] _ [(5, i64 j), (3, .d (.sl .one (strs out))), (1, .d (.rp (Lay.st [.one, .one]) (injD d) []))]) []
  refine AC_seq fun K6 hK6 => ?_
  refine AC_seq fun K7 hK7 => ?_
  refine AC_region ?_
  refine AL_ev (Ev_move) rfl ?_
  refine AL_ev (Ev_move) rfl ?_
  first | refine AL_lim (x := (Operand.tmp 12)) rfl fun hl1 => ?_ | refine AL_limB (x := (Operand.tmp 12)) rfl rfl (by first | rfl | (simp; done) | (simp; omega)) fun hl1 => ?_ | have hl1 := True.intro
  try simp only [injs_length, ints_length, strs_length, injCs_length, List.length_map] at hl1
  first | refine AL_ev (Ev_len_strs te23 rfl) rfl ?_ | refine AL_ev (Ev_len_sl te23 rfl) rfl ?_ | refine AL_ev (Ev_len_ref te23 rfl) rfl ?_ | refine AL_ev (Ev_len_nil te23 rfl) rfl ?_ | refine AL_ev (Ev_len_c te23 rfl) rfl ?_
  refine AL_ev (Ev_lss rfl rfl) rfl ?_
  refine AL_nil ?_
  refine hK7 _ _ _ ?_
  refine AC_cond rfl (fun hc1 => ?_) (fun hc1 => ?_)
  · skip
    have hlt : j < ps.length := by simpa using hc1
    obtain ⟨u, hu⟩ : ∃ x, ps[j]? = some x := ⟨_, List.getElem?_eq_getElem hlt⟩
    have hu2 := strs_get hu
    have hdr := drop_get hu
    rw [hdr, missP] at hI
    have hKl := hK.len
    have hcv := hcu u
    refine AC_skip ?_
    refine hK6 _ _ _ ?_
    refine AC_seq fun K8 hK8 => ?_
    refine AC_block ?_
    refine AC_seq fun K9 hK9 => ?_
    refine AC_draw hT follows [0, 1, 2, 3, 4, 5, 6] (by kernel_rfl) ?_
    first | refine DT_ev rfl (EA_load_ptr rfl rfl rfl rfl rfl rfl ts30 ta30 (by first | rfl | simp) (by intro h; cases h)) rfl ?_ | refine DT_ev rfl (EA_load_rp rfl rfl rfl ts30 ta30 (by first | rfl | simp) (by intro h; cases h)) rfl ?_
    refine DT_ev rfl (EA_move) rfl ?_
    refine DT_ev rfl (EA_move) rfl ?_
    first | refine DT_ev rfl (EA_ix_sl rfl rfl te23 ts9 (by omega) (by assumption)) rfl ?_ | refine DT_ev rfl (EA_ix_ref rfl rfl te23 ts9 (by omega) (by first | omega | (simp; omega))) rfl ?_
    first | refine DT_ev rfl (EA_load_ptr rfl rfl rfl rfl rfl rfl ts9 ta9 rfl (fun _ => rfl)) rfl ?_ | refine DT_ev rfl (EA_load_rp rfl rfl rfl ts9 ta9 rfl (fun _ => rfl)) rfl ?_
    refine DT_fcall0 rfl rfl cl44 (c_specCallsOf d u hb) rfl rfl ?_
    refine DT_ev rfl (EA_assign) rfl ?_
    refine DTi.nil ?_
    refine hK9 _ _ _ ?_
    refine AC_seq fun K10 hK10 => ?_
    refine AC_region ?_
    refine AL_ev (Ev_assign) rfl ?_
    refine AL_nil ?_
    refine hK10 _ _ _ ?_
    refine AC_block ?_
    refine AC_loopS [1, 4, 5, 6] (Nat × List ByteArray) (fun ⟨i, ou2⟩ => [(7, i64 i), (3, .d (.sl .one (strs ou2)))]) (fun ⟨i, ou2⟩ => []) (fun st => (callsOf d u).length - st.1) (fun ⟨i, ou2⟩ => i ≤ (callsOf d u).length ∧ (addMiss d out (callsOf d u) = addMiss d ou2 ((callsOf d u).drop i) ∧ OkR d ou2)) ((0, out)) ?_ ?_ ?_
    · skip
      exact enterS [] rfl rfl BxTo_nil (SlTo_cons (by first | exact .rd .d | exact Vw_int (by first | rfl | assumption | omega | (simp; done) | (simp; omega)) | exact Vw_c (by first | rfl | (simp; done) | simp_all) | exact .any) (SlTo_cons (by first | exact .rd .d | exact Vw_int (by first | rfl | assumption | omega | (simp; done) | (simp; omega)) | exact Vw_c (by first | rfl | (simp; done) | simp_all) | exact .any) (SlTo_cons (by first | exact .rd .d | exact .any) (SlTo_cons (by first | exact .rd .d | exact .any) (SlTo_cons (by first | exact .rd .d | exact .any) (SlTo_cons (by first | exact .rd .d | exact .any) SlTo_nil))))))
    · skip
      exact ⟨Nat.zero_le _, by simp, hK⟩
    rintro ⟨i, ou2⟩ ⟨hj, ⟨hI2, hK2⟩⟩
    show AC _ _ _ _ _ (FS [1, 4, 5, 6] _ [(7, i64 i), (3, .d (.sl .one (strs ou2)))]) []
    refine AC_seq fun K11 hK11 => ?_
    refine AC_seq fun K12 hK12 => ?_
    refine AC_region ?_
    refine AL_ev (Ev_move) rfl ?_
    refine AL_ev (Ev_move) rfl ?_
    first | refine AL_lim (x := (Operand.tmp 24)) rfl fun hl2 => ?_ | refine AL_limB (x := (Operand.tmp 24)) rfl rfl (by first | rfl | (simp; done) | (simp; omega)) fun hl2 => ?_ | have hl2 := True.intro
    try simp only [injs_length, ints_length, strs_length, injCs_length, List.length_map] at hl2
    first | refine AL_ev (Ev_len_strs te23 rfl) rfl ?_ | refine AL_ev (Ev_len_sl te23 rfl) rfl ?_ | refine AL_ev (Ev_len_ref te23 rfl) rfl ?_ | refine AL_ev (Ev_len_nil te23 rfl) rfl ?_ | refine AL_ev (Ev_len_c te23 rfl) rfl ?_
    refine AL_ev (Ev_lss rfl rfl) rfl ?_
    refine AL_nil ?_
    refine hK12 _ _ _ ?_
    refine AC_cond rfl (fun hc2 => ?_) (fun hc2 => ?_)
    · skip
      have hlt : i < (callsOf d u).length := by simpa using hc2
      obtain ⟨v, hu⟩ : ∃ x, (callsOf d u)[i]? = some x := ⟨_, List.getElem?_eq_getElem hlt⟩
      have hu2 := strs_get hu
      have hdr := drop_get hu
      rw [hdr] at hI2
      rw [addMiss] at hI2
      have hKl2 := hK2.len
      refine AC_skip ?_
      refine hK11 _ _ _ ?_
      refine AC_seq fun K13 hK13 => ?_
      refine AC_block ?_
      refine AC_seq fun K14 hK14 => ?_
      refine AC_draw hT follows [0, 1, 2, 3, 4, 5, 6] (by kernel_rfl) ?_
      first | refine DT_ev rfl (EA_load_ptr rfl rfl rfl rfl rfl rfl ts30 ta30 (by first | rfl | simp) (by intro h; cases h)) rfl ?_ | refine DT_ev rfl (EA_load_rp rfl rfl rfl ts30 ta30 (by first | rfl | simp) (by intro h; cases h)) rfl ?_
      refine DT_ev rfl (EA_move) rfl ?_
      refine DT_ev rfl (EA_move) rfl ?_
      first | refine DT_ev rfl (EA_ix_sl rfl rfl te23 ts9 (by omega) (by assumption)) rfl ?_ | refine DT_ev rfl (EA_ix_ref rfl rfl te23 ts9 (by omega) (by first | omega | (simp; omega))) rfl ?_
      first | refine DT_ev rfl (EA_load_ptr rfl rfl rfl rfl rfl rfl ts9 ta9 rfl (fun _ => rfl)) rfl ?_ | refine DT_ev rfl (EA_load_rp rfl rfl rfl ts9 ta9 rfl (fun _ => rfl)) rfl ?_
      refine DT_fcall0 rfl rfl cl91 (c_specKnown d v hb) rfl rfl ?_
      refine DT_ev rfl (EA_not rfl) rfl ?_
      refine DTi.nil ?_
      refine hK14 _ _ _ ?_
      refine AC_cond rfl (fun hc3 => ?_) (fun hc3 => ?_)
      · skip
        refine AC_region ?_
        refine AL_ev (Ev_move) rfl ?_
        refine AL_ev (Ev_move) rfl ?_
        refine AL_ev (Ev_move) rfl ?_
        first | refine AL_ev (Ev_ix_sl rfl rfl te23 ts9 (by omega) (by assumption)) rfl ?_ | refine AL_ev (Ev_ix_ref rfl rfl te23 ts9 (by omega) (by first | omega | (simp; omega))) rfl ?_
        first | refine AL_ev (Ev_load_ptr rfl rfl rfl rfl rfl rfl ts9 ta9 rfl (fun _ => rfl)) rfl ?_ | refine AL_ev (Ev_load_rp rfl rfl rfl ts9 ta9 rfl (fun _ => rfl)) rfl ?_
        refine AL_fcall0 hT rfl cl59 (c_l23Add ou2 v (by omega)) rfl rfl ?_
        refine AL_ev (Ev_assign) rfl ?_
        refine AL_nil ?_
        refine hK13 _ _ _ ?_
        refine AC_region ?_
        refine AL_ev (Ev_move) rfl ?_
        first | refine AL_ev (Ev_add rfl rfl _ (wrap_id (by first | omega | (simp; omega)) (by first | omega | (simp; omega)))) rfl ?_ | refine AL_ev (Ev_add rfl rfl _ rfl) rfl ?_
        refine AL_ev (Ev_assign) rfl ?_
        refine AL_nil ?_
        refine closeS (i + 1, onceL ou2 v) [] rfl rfl (by show (callsOf d u).length - (i + 1) < (callsOf d u).length - i; omega) ⟨hlt, ?_⟩ BxTo_nil (SlTo_cons (by first | exact .rd .d | exact Vw_int (by first | rfl | assumption | omega | (simp; done) | (simp; omega)) | exact Vw_c (by first | rfl | (simp; done) | simp_all) | exact .any) (SlTo_cons (by first | exact .rd .d | exact Vw_int (by first | rfl | assumption | omega | (simp; done) | (simp; omega)) | exact Vw_c (by first | rfl | (simp; done) | simp_all) | exact .any) (SlTo_cons (by first | exact .rd .d | exact .any) (SlTo_cons (by first | exact .rd .d | exact .any) (SlTo_cons (by first | exact .rd .d | exact .any) (SlTo_cons (by first | exact .rd .d | exact .any) SlTo_nil))))))
        exact ⟨by rw [hI2, if_neg (by simp_all)], hK2.once (callsOf_sub (List.mem_of_getElem? hu))⟩
      · skip
        refine AC_skip ?_
        refine hK13 _ _ _ ?_
        refine AC_region ?_
        refine AL_ev (Ev_move) rfl ?_
        first | refine AL_ev (Ev_add rfl rfl _ (wrap_id (by first | omega | (simp; omega)) (by first | omega | (simp; omega)))) rfl ?_ | refine AL_ev (Ev_add rfl rfl _ rfl) rfl ?_
        refine AL_ev (Ev_assign) rfl ?_
        refine AL_nil ?_
        refine closeS (i + 1, ou2) [] rfl rfl (by show (callsOf d u).length - (i + 1) < (callsOf d u).length - i; omega) ⟨hlt, ?_⟩ BxTo_nil (SlTo_cons (by first | exact .rd .d | exact Vw_int (by first | rfl | assumption | omega | (simp; done) | (simp; omega)) | exact Vw_c (by first | rfl | (simp; done) | simp_all) | exact .any) (SlTo_cons (by first | exact .rd .d | exact Vw_int (by first | rfl | assumption | omega | (simp; done) | (simp; omega)) | exact Vw_c (by first | rfl | (simp; done) | simp_all) | exact .any) (SlTo_cons (by first | exact .rd .d | exact .any) (SlTo_cons (by first | exact .rd .d | exact .any) (SlTo_cons (by first | exact .rd .d | exact .any) (SlTo_cons (by first | exact .rd .d | exact .any) SlTo_nil))))))
        exact ⟨by rw [hI2, if_pos (by simp_all)], hK2⟩
    · skip
      have hj2 : i = (callsOf d u).length := by
        have : ¬ i < (callsOf d u).length := by simpa using hc2
        omega
      subst hj2
      refine AC_exit ?_
      refine hK8 _ _ _ ?_
      refine AC_region ?_
      refine AL_ev (Ev_move) rfl ?_
      first | refine AL_ev (Ev_add rfl rfl _ (wrap_id (by first | omega | (simp; omega)) (by first | omega | (simp; omega)))) rfl ?_ | refine AL_ev (Ev_add rfl rfl _ rfl) rfl ?_
      refine AL_ev (Ev_assign) rfl ?_
      refine AL_nil ?_
      refine closeS (j + 1, ou2) [] rfl rfl (by show ps.length - (j + 1) < ps.length - j; omega) ⟨hlt, ?_⟩ BxTo_nil (SlTo_cons (by first | exact .rd .d | exact Vw_int (by first | rfl | assumption | omega | (simp; done) | (simp; omega)) | exact Vw_c (by first | rfl | (simp; done) | simp_all) | exact .any) (SlTo_cons (by first | exact .rd .d | exact Vw_int (by first | rfl | assumption | omega | (simp; done) | (simp; omega)) | exact Vw_c (by first | rfl | (simp; done) | simp_all) | exact .any) (SlTo_cons (by first | exact .rd (.ptr (srcFree rfl) rfl rfl rfl .d) | exact .rd .d) (SlTo_cons (by first | exact .rd .d | exact .any) SlTo_nil))))
      rw [List.drop_length, addMiss] at hI2
      exact ⟨by rw [hI, hI2], hK2⟩
  · skip
    have hj2 : j = ps.length := by
      have : ¬ j < ps.length := by simpa using hc1
      omega
    subst hj2
    rw [List.drop_length] at hI
    refine AC_exit ?_
    refine hK4 _ _ _ ?_
    refine AC_seq fun K15 hK15 => ?_
    refine AC_region ?_
    refine AL_ev (Ev_move) rfl ?_
    refine AL_ev (Ev_assign) rfl ?_
    refine AL_nil ?_
    refine hK15 _ _ _ ?_
    refine AC_ret ?_
    refine ret_ok hdm (.tmp rfl rfl .nil) (.cons .d .nil) ?_
    rw [missP] at hI
    rw [hI]

set_option maxHeartbeats 1000000 in
set_option maxRecDepth 4000 in
theorem c_lawMissingIn (d : Dbt) (hb : bulkD d ≤ 1048576) : PCall Tryd.prog 13 [injD d] (· = [.c (.bool true)]) := by
  have hcs := cntCs_nn d.cs
  have hcb := cntCs_bulk d.cs
  obtain ⟨hb1, hb2, hb3, hb4⟩ := bulkD_bd (cs := d.cs) (op := d.op) (B := 1048576) hb
  have hS : OCall Tryd.prog 53 [injD d] (.sl .one (strs (missIn d))) := (c_missingIn d hb).ocall
  have hrl : ((missIn d).length : Int) ≤ 1099511627776 - 1 := by have := missIn_len d; omega
  refine PCall_of (n := 69) Tryd.func13 rfl rfl (Nat.le_of_ble_eq_true rfl) fun C hdm hT0 => ?_
  have hT := hT0
  have hX0 := CExt.refl C
  refine AC_seq fun K1 hK1 => ?_
  refine AC_region ?_
  refine AL_box (Lay.st [.one, .one]) (nf rfl) rfl (by first | rfl | simp [Lay.len, Lay.lens]) _ rfl rfl ?_
  refine AL_ev (Ev_assign) rfl ?_
  refine AL_nil ?_
  refine hK1 _ _ _ ?_
  refine AC_seq fun K2 hK2 => ?_
  refine AC_region ?_
  refine AL_ev (Ev_assign) rfl ?_
  refine AL_nil ?_
  refine hK2 _ _ _ ?_
  refine AC_seq fun K3 hK3 => ?_
  refine AC_region ?_
  first | refine AL_ev (Ev_load_ptr rfl rfl rfl rfl rfl rfl ts25 ta25 (by first | rfl | simp) (by intro h; cases h)) rfl ?_ | refine AL_ev (Ev_load_rp rfl rfl rfl ts25 ta25 (by first | rfl | simp) (by intro h; cases h)) rfl ?_
  refine AL_ev (Ev_move) rfl ?_
  refine AL_fcall0 hT rfl cl15 (c_szDb d 1048576 hb (by omega)) rfl rfl ?_
  refine AL_ev (Ev_assign) rfl ?_
  refine AL_nil ?_
  refine hK3 _ _ _ ?_
  refine AC_seq fun K4 hK4 => ?_
  refine AC_seq fun K5 hK5 => ?_
  refine AC_region ?_
  refine AL_ev (Ev_move) rfl ?_
  refine AL_ev (Ev_lss rfl rfl) rfl ?_
  refine AL_nil ?_
  refine hK5 _ _ _ ?_
  refine AC_cond rfl (fun hc1 => ?_) (fun hc1 => ?_)
  · skip
    have : (1048576 : Int) - (bulkD d) < 0 := by simpa using hc1
    omega
  · skip
    refine AC_skip ?_
    refine hK4 _ _ _ ?_
    refine AC_seq fun K6 hK6 => ?_
    refine AC_region ?_
    first | refine AL_ev (Ev_load_ptr rfl rfl rfl rfl rfl rfl ts25 ta25 (by first | rfl | simp) (by intro h; cases h)) rfl ?_ | refine AL_ev (Ev_load_rp rfl rfl rfl ts25 ta25 (by first | rfl | simp) (by intro h; cases h)) rfl ?_
    refine AL_fcall0 hT rfl cl17 ((c_toDb d).pcall) rfl rfl ?_
    refine AL_fcall0 hT rfl cl52 (c_specMissingIn d hb) rfl rfl ?_
    refine AL_ev (Ev_assign) rfl ?_
    refine AL_nil ?_
    refine hK6 _ _ _ ?_
    refine AC_seq fun K7 hK7 => ?_
    refine AC_region ?_
    first | refine AL_ev (Ev_load_ptr rfl rfl rfl rfl rfl rfl ts25 ta25 (by first | rfl | simp) (by intro h; cases h)) rfl ?_ | refine AL_ev (Ev_load_rp rfl rfl rfl ts25 ta25 (by first | rfl | simp) (by intro h; cases h)) rfl ?_
    refine AL_ocall0 hT LD rfl cl17 (c_toDb d) rfl (injD_lenL d) (injD_agL d) rfl fun C1 cs1 K1 hg1 => ?_
    have hX1 := hX0.trans hg1.ext
    have hT := hT.ext hg1.ext
    have hx := hg1.has
    refine AL_alloc zo30 _ rfl rfl ?_
    first | refine AL_store rfl (nf rfl) rfl rfl rfl rfl rfl rfl (by first | rfl | simp [Lay.len, Lay.lens]) ts30 rfl rfl ?_ | refine AL_store rfl (nf rfl) rfl rfl rfl hes rfl rfl (by first | rfl | simp [Lay.len, Lay.lens]) ts30 rfl rfl ?_
    refine AL_nil ?_
    refine hK7 _ _ _ ?_
    refine AC_seq fun K8 hK8 => ?_
    refine AC_region ?_
    first | refine AL_ev (Ev_load_ptr rfl rfl rfl rfl rfl rfl ts30 ta30 (by first | rfl | simp) (by intro h; cases h)) rfl ?_ | refine AL_ev (Ev_load_rp rfl rfl rfl ts30 ta30 (by first | rfl | simp) (by intro h; cases h)) rfl ?_
    refine AL_qocall hT .one rfl cl53 hS (.cons (.raw (l := LD) (cs := cs1) hx hg1.len (injD_agL d)) .nil) rfl rfl rfl fun C9 cs9 K9 hg9 => ?_
    have hap := hg9.apart hx
    have hx := hx.ext hg9.ext
    have hX9 := hX1.trans hg9.ext
    have hT := hT.ext hg9.ext
    obtain ⟨A9, rfl⟩ := one_cell_of hg9.has
    have hG := hg9.has
    refine AL_ev (Ev_assign) rfl ?_
    refine AL_nil ?_
    refine hK8 _ _ _ ?_
    refine AC_seq fun K9 hK9 => ?_
    refine AC_seq fun K10 hK10 => ?_
    refine AC_region ?_
    refine AL_ev (Ev_move) rfl ?_
    refine AL_ev (Ev_move) rfl ?_
    refine AL_qcall hT rfl cl19 (c_eqStringS (missIn d)) (.cons (.raw (l := .one) (cs := [A9]) hG rfl rfl) (.cons (.rd .d) .nil)) rfl ?_
    refine AL_ev (Ev_not rfl) rfl ?_
    refine AL_nil ?_
    refine hK10 _ _ _ ?_
    refine AC_cond rfl (fun hc2 => ?_) (fun hc2 => ?_)
    · skip
      exact absurd hc2 (by simp)
    · skip
      refine AC_skip ?_
      refine hK9 _ _ _ ?_
      refine AC_seq fun K11 hK11 => ?_
      refine AC_seq fun K12 hK12 => ?_
      refine AC_draw hT follows [0, 1, 2, 3, 4] (by kernel_rfl) ?_
      first | refine DT_ev rfl (EA_load_ptr rfl rfl rfl rfl rfl rfl ts30 ta30 (by first | rfl | simp) (by intro h; cases h)) rfl ?_ | refine DT_ev rfl (EA_load_rp rfl rfl rfl ts30 ta30 (by first | rfl | simp) (by intro h; cases h)) rfl ?_
      first | refine DT_ev rfl (EA_load_ptr rfl rfl rfl rfl rfl rfl ts25 ta25 (by first | rfl | simp) (by intro h; cases h)) rfl ?_ | refine DT_ev rfl (EA_load_rp rfl rfl rfl ts25 ta25 (by first | rfl | simp) (by intro h; cases h)) rfl ?_
      refine DT_fcall0 rfl rfl cl17 ((c_toDb d).pcall) rfl rfl ?_
      refine DT_qcall hT rfl rfl cl20 (c_eqDb d) (fun L2 => .cons (.raw (l := LD) (cs := cs1) hx hg1.len (injD_agL d)) (.cons (.rd .d) .nil)) rfl (by kernel_rfl) ?_
      refine DT_ev rfl (EA_not rfl) rfl ?_
      refine DTi.nil ?_
      refine hK12 _ _ _ ?_
      refine AC_cond rfl (fun hc3 => ?_) (fun hc3 => ?_)
      · skip
        exact absurd hc3 (by simp)
      · skip
        refine AC_skip ?_
        refine hK11 _ _ _ ?_
        refine AC_seq fun K13 hK13 => ?_
        refine AC_region ?_
        refine AL_ev (Ev_assign) rfl ?_
        refine AL_nil ?_
        refine hK13 _ _ _ ?_
        refine AC_seq fun K14 hK14 => ?_
        refine AC_region ?_
        first | refine AL_ev (Ev_load_ptr rfl rfl rfl rfl rfl rfl ts30 ta30 (by first | rfl | simp) (by intro h; cases h)) rfl ?_ | refine AL_ev (Ev_load_rp rfl rfl rfl ts30 ta30 (by first | rfl | simp) (by intro h; cases h)) rfl ?_
        refine AL_ev (Ev_move) rfl ?_
        refine AL_mwk LD rfl cl21 (c_markDb d 1 (by omega) (by omega)) hx hg1.len (injD_agL d) rfl rfl rfl fun C3 hk3 => ?_
        have hX3 := hX9.marked hk3 (fun b hb => .inr (hx.lo b hb))
        have hT := hT0.ext hX3
        have hG := hG.marked hk3 hap
        refine AL_ev (Ev_assign) rfl ?_
        refine AL_nil ?_
        refine hK14 _ _ _ ?_
        refine AC_seq fun K15 hK15 => ?_
        refine AC_seq fun K16 hK16 => ?_
        refine AC_region ?_
        refine AL_ev (Ev_move) rfl ?_
        refine AL_ev (Ev_lss rfl rfl) rfl ?_
        refine AL_ev (Ev_move) rfl ?_
        refine AL_bool 37 rfl (fun hg4 => ?_) (fun hg4 => ?_)
        · skip
          have : (1 : Int) + (cntCs d.cs + d.op.length) < 0 := by simpa [Int.add_assoc] using hg4
          omega
        · skip
          refine AL_guard_t rfl rfl rfl ?_
          refine AL_ev (Ev_move) rfl ?_
          refine AL_guard_t rfl rfl rfl ?_
          refine AL_ev (Ev_move) rfl ?_
          refine AL_guard_t rfl rfl rfl ?_
          refine AL_qcall hT rfl cl19 (c_eqStringS (missIn d)) (.cons (.raw (l := .one) (cs := [A9]) hG rfl rfl) (.cons (.rd .d) .nil)) rfl ?_
          refine AL_guard_t rfl rfl rfl ?_
          refine AL_ev (Ev_not rfl) rfl ?_
          refine AL_ev (Ev_pick rfl) rfl ?_
          refine AL_nil ?_
          refine hK16 _ _ _ ?_
          refine AC_cond rfl (fun hc5 => ?_) (fun hc5 => ?_)
          · skip
            exact absurd hc5 (by simp)
          · skip
            refine AC_skip ?_
            refine hK15 _ _ _ ?_
            refine AC_seq fun K17 hK17 => ?_
            refine AC_region ?_
            refine AL_ev (Ev_assign) rfl ?_
            refine AL_nil ?_
            refine hK17 _ _ _ ?_
            refine AC_seq fun K18 hK18 => ?_
            refine AC_region ?_
            refine AL_ev (Ev_move) rfl ?_
            refine AL_ev (Ev_move) rfl ?_
            refine AL_mcall .one rfl cl22 (c_markStringS (missIn d) 1 (by omega) (by omega)) hG rfl rfl rfl rfl rfl fun C4 hk4 hG4 => ?_
            have hX4 := hX3.marked hk4 (fun b hb => .inr (Nat.le_trans hX1.pres.size (hG.lo b hb)))
            have hT := hT0.ext hX4
            refine AL_ev (Ev_assign) rfl ?_
            refine AL_nil ?_
            refine hK18 _ _ _ ?_
            refine AC_seq fun K19 hK19 => ?_
            refine AC_region ?_
            refine AL_ev (Ev_assign) rfl ?_
            refine AL_nil ?_
            refine hK19 _ _ _ ?_
            refine AC_seq fun K20 hK20 => ?_
            refine AC_region ?_
            refine AL_ev (Ev_move) rfl ?_
            refine AL_ev (Ev_move) rfl ?_
            refine AL_qcall hT rfl cl23 (c_heldStringS (missIn d).length 1 (by omega) (by omega)) (.cons (.raw (l := .one) (cs := [A9]) hG4 rfl rfl) (.cons (.rd .d) .nil)) rfl ?_
            refine AL_ev (Ev_assign) rfl ?_
            refine AL_nil ?_
            refine hK20 _ _ _ ?_
            refine AC_seq fun K21 hK21 => ?_
            refine AC_seq fun K22 hK22 => ?_
            refine AC_region ?_
            refine AL_ev (Ev_move) rfl ?_
            refine AL_ev (Ev_lss rfl rfl) rfl ?_
            refine AL_nil ?_
            refine hK22 _ _ _ ?_
            refine AC_cond rfl (fun hc6 => ?_) (fun hc6 => ?_)
            · skip
              have : (1 : Int) + ((missIn d).length : Int) < 0 := by simpa using hc6
              omega
            · skip
              refine AC_skip ?_
              refine hK21 _ _ _ ?_
              refine AC_seq fun K23 hK23 => ?_
              refine AC_seq fun K24 hK24 => ?_
              refine AC_region ?_
              refine AL_ev (Ev_move) rfl ?_
              refine AL_ev (Ev_move) rfl ?_
              refine AL_ev (Ev_neq rfl rfl) rfl ?_
              refine AL_nil ?_
              refine hK24 _ _ _ ?_
              refine AC_cond rfl (fun hc7 => ?_) (fun hc7 => ?_)
              · skip
                exact absurd hc7 (by simp)
              · skip
                refine AC_skip ?_
                refine hK23 _ _ _ ?_
                refine AC_seq fun K25 hK25 => ?_
                refine AC_region ?_
                first | refine AL_ev (Ev_load_ptr rfl rfl rfl rfl rfl rfl ts25 ta25 (by first | rfl | simp) (by intro h; cases h)) rfl ?_ | refine AL_ev (Ev_load_rp rfl rfl rfl ts25 ta25 (by first | rfl | simp) (by intro h; cases h)) rfl ?_
                refine AL_fcall0 hT rfl cl17 ((c_toDb d).pcall) rfl rfl ?_
                refine AL_fcall0 hT rfl cl53 (hS.pcall) rfl rfl ?_
                refine AL_ev (Ev_assign) rfl ?_
                refine AL_nil ?_
                refine hK25 _ _ _ ?_
                refine AC_seq fun K26 hK26 => ?_
                refine AC_seq fun K27 hK27 => ?_
                refine AC_region ?_
                refine AL_ev (Ev_move) rfl ?_
                refine AL_ev (Ev_move) rfl ?_
                refine AL_fcall0 hT rfl cl19 (c_eqStringS (missIn d)) rfl rfl ?_
                refine AL_ev (Ev_not rfl) rfl ?_
                refine AL_nil ?_
                refine hK27 _ _ _ ?_
                refine AC_cond rfl (fun hc8 => ?_) (fun hc8 => ?_)
                · skip
                  exact absurd hc8 (by simp)
                · skip
                  refine AC_skip ?_
                  refine hK26 _ _ _ ?_
                  refine AC_seq fun K28 hK28 => ?_
                  refine AC_region ?_
                  refine AL_ev (Ev_assign) rfl ?_
                  refine AL_nil ?_
                  refine hK28 _ _ _ ?_
                  refine AC_seq fun K29 hK29 => ?_
                  refine AC_region ?_
                  refine AL_ev (Ev_move) rfl ?_
                  refine AL_ev (Ev_move) rfl ?_
                  refine AL_qcall hT rfl cl23 (c_heldStringS (missIn d).length 1 (by omega) (by omega)) (.cons (.raw (l := .one) (cs := [A9]) hG4 rfl rfl) (.cons (.rd .d) .nil)) rfl ?_
                  refine AL_ev (Ev_assign) rfl ?_
                  refine AL_nil ?_
                  refine hK29 _ _ _ ?_
                  refine AC_seq fun K30 hK30 => ?_
                  refine AC_seq fun K31 hK31 => ?_
                  refine AC_region ?_
                  refine AL_ev (Ev_move) rfl ?_
                  refine AL_ev (Ev_lss rfl rfl) rfl ?_
                  refine AL_nil ?_
                  refine hK31 _ _ _ ?_
                  refine AC_cond rfl (fun hc9 => ?_) (fun hc9 => ?_)
                  · skip
                    have : (1 : Int) + ((missIn d).length : Int) < 0 := by simpa using hc9
                    omega
                  · skip
                    refine AC_skip ?_
                    refine hK30 _ _ _ ?_
                    refine AC_seq fun K32 hK32 => ?_
                    refine AC_seq fun K33 hK33 => ?_
                    refine AC_region ?_
                    refine AL_ev (Ev_move) rfl ?_
                    refine AL_ev (Ev_move) rfl ?_
                    refine AL_ev (Ev_neq rfl rfl) rfl ?_
                    refine AL_nil ?_
                    refine hK33 _ _ _ ?_
                    refine AC_cond rfl (fun hc10 => ?_) (fun hc10 => ?_)
                    · skip
                      exact absurd hc10 (by simp)
                    · skip
                      refine AC_skip ?_
                      refine hK32 _ _ _ ?_
                      refine AC_seq fun K34 hK34 => ?_
                      refine AC_region ?_
                      refine AL_ev (Ev_assign) rfl ?_
                      refine AL_nil ?_
                      refine hK34 _ _ _ ?_
                      refine AC_ret ?_
                      exact ret_okX hX4 hdm (.tmp rfl rfl .nil) (.cons .d .nil) rfl

end Go.Proofs.YtleahipnknainaaDoor
