/- Contracts of functions. -/
import Derived.Test.YtjhdkjacfclipaaDoorMt
import Derived.Test.YtjhdkjacfclipaaDoorOk
import Derived.Test.YtjhdkjacfclipaaDoorWn
import Derived.Test.YtjhdkjacfclipaaDoorEng27
import Derived.Test.YtjhdkjacfclipaaDoorProg
import Derived.KernelRfl
import Derived.Test.YtjhdkjacfclipaaDoorCA
set_option linter.unusedVariables false
set_option linter.unusedSimpArgs false
namespace Go.Proofs.YtjhdkjacfclipaaDoor
open Go.Eng

theorem tz32 : tyZero Tryd.prog 32 = some (some (.agg #[.slice none 0 0, .slice none 0 0])) := by kernel_rfl
theorem tz9 : tyZero Tryd.prog 9 = some (some (.string ⟨#[]⟩)) := by kernel_rfl
theorem cl13 : Callable Tryd.prog 13 := Callable_of Tryd.func13 (by kernel_rfl) (by kernel_rfl)
theorem cl14 : Callable Tryd.prog 14 := Callable_of Tryd.func14 (by kernel_rfl) (by kernel_rfl)
theorem cl18 : Callable Tryd.prog 18 := Callable_of Tryd.func18 (by kernel_rfl) (by kernel_rfl)
theorem cl19 : Callable Tryd.prog 19 := Callable_of Tryd.func19 (by kernel_rfl) (by kernel_rfl)
theorem cl27 : Callable Tryd.prog 27 := Callable_of Tryd.func27 (by kernel_rfl) (by kernel_rfl)
theorem cl28 : Callable Tryd.prog 28 := Callable_of Tryd.func28 (by kernel_rfl) (by kernel_rfl)
theorem cl31 : Callable Tryd.prog 31 := Callable_of Tryd.func31 (by kernel_rfl) (by kernel_rfl)
theorem cl37 : Callable Tryd.prog 37 := Callable_of Tryd.func37 (by kernel_rfl) (by kernel_rfl)
theorem cl42 : Callable Tryd.prog 42 := Callable_of Tryd.func42 (by kernel_rfl) (by kernel_rfl)
theorem fa25_0 : tyField Tryd.prog 25 0 = some (0, true) := by kernel_rfl
theorem fa25_1 : tyField Tryd.prog 25 1 = some (1, true) := by kernel_rfl
theorem fa32_0 : tyField Tryd.prog 32 0 = some (0, true) := by kernel_rfl
theorem fa32_1 : tyField Tryd.prog 32 1 = some (1, true) := by kernel_rfl
theorem ta22 : tyAgg Tryd.prog 22 = some false := by kernel_rfl
theorem ta23 : tyAgg Tryd.prog 23 = some false := by kernel_rfl
theorem ta30 : tyAgg Tryd.prog 30 = some false := by kernel_rfl
theorem ta32 : tyAgg Tryd.prog 32 = some true := by kernel_rfl
theorem ta64 : tyAgg Tryd.prog 64 = some true := by kernel_rfl
theorem tb50 : tyBytes Tryd.prog 50 = some 128 := by kernel_rfl
theorem tb9 : tyBytes Tryd.prog 9 = some 16 := by kernel_rfl
theorem te22 : tyElem Tryd.prog 22 = some 64 := by kernel_rfl
theorem te23 : tyElem Tryd.prog 23 = some 9 := by kernel_rfl
theorem te30 : tyElem Tryd.prog 30 = some 50 := by kernel_rfl
theorem ts22 : tySize Tryd.prog 22 = some 1 := by kernel_rfl
theorem ts23 : tySize Tryd.prog 23 = some 1 := by kernel_rfl
theorem ts30 : tySize Tryd.prog 30 = some 1 := by kernel_rfl
theorem ts32 : tySize Tryd.prog 32 = some 2 := by kernel_rfl
theorem ts64 : tySize Tryd.prog 64 = some 9 := by kernel_rfl
theorem zo32 : ZeroOf Tryd.prog 32 (Lay.st [.one, .one]) (.d (.agg [.one, .one] [.c (.slice none 0 0), .c (.slice none 0 0)])) := ⟨_, tz32, rfl, fun _ _ _ => VC_cells rfl⟩
theorem zo9 : ZeroOf Tryd.prog 9 .one (.d (.c (.string ⟨#[]⟩))) := ⟨_, tz9, rfl, fun _ _ _ => VC_cells rfl⟩

set_option maxHeartbeats 1000000 in
set_option maxRecDepth 4000 in
theorem c_eqStringS (xs : List ByteArray) : PCall Tryd.prog 28 [.sl .one (strs xs), .sl .one (strs xs)] (· = [.c (.bool true)]) := by
  refine PCall_of (n := 26) Tryd.func28 rfl rfl (Nat.le_of_ble_eq_true rfl) fun C hdm hT0 => ?_
  have hT := hT0
  refine AC_seq fun K1 hK1 => ?_
  refine AC_region ?_
  refine AL_ev (Ev_assign) rfl ?_
  refine AL_nil ?_
  refine hK1 _ _ _ ?_
  refine AC_seq fun K2 hK2 => ?_
  refine AC_seq fun K3 hK3 => ?_
  refine AC_region ?_
  refine AL_ev (Ev_move) rfl ?_
  first | refine AL_lim (x := (Operand.tmp 6)) rfl fun hl1 => ?_ | refine AL_limB (x := (Operand.tmp 6)) rfl rfl (by first | rfl | (simp; done) | (simp; omega)) fun hl1 => ?_ | have hl1 := True.intro
  try simp only [injs_length, ints_length, strs_length, injCs_length, List.length_map] at hl1
  first | refine AL_ev (Ev_len_strs te23 rfl) rfl ?_ | refine AL_ev (Ev_len_sl te23 rfl) rfl ?_ | refine AL_ev (Ev_len_ref te23 rfl) rfl ?_ | refine AL_ev (Ev_len_nil te23 rfl) rfl ?_ | refine AL_ev (Ev_len_c te23 rfl) rfl ?_
  refine AL_ev (Ev_move) rfl ?_
  first | refine AL_lim (x := (Operand.tmp 8)) rfl fun hl2 => ?_ | refine AL_limB (x := (Operand.tmp 8)) rfl rfl (by first | rfl | (simp; done) | (simp; omega)) fun hl2 => ?_ | have hl2 := True.intro
  try simp only [injs_length, ints_length, strs_length, injCs_length, List.length_map] at hl2
  first | refine AL_ev (Ev_len_strs te23 rfl) rfl ?_ | refine AL_ev (Ev_len_sl te23 rfl) rfl ?_ | refine AL_ev (Ev_len_ref te23 rfl) rfl ?_ | refine AL_ev (Ev_len_nil te23 rfl) rfl ?_ | refine AL_ev (Ev_len_c te23 rfl) rfl ?_
  refine AL_ev (Ev_neq rfl rfl) rfl ?_
  refine AL_nil ?_
  refine hK3 _ _ _ ?_
  refine AC_cond rfl (fun hc1 => ?_) (fun hc1 => ?_)
  · skip
    exact absurd hc1 (by simp)
  · skip
    refine AC_skip ?_
    refine hK2 _ _ _ ?_
    refine AC_seq fun K4 hK4 => ?_
    refine AC_seq fun K5 hK5 => ?_
    refine AC_region ?_
    refine AL_ev (Ev_assign) rfl ?_
    refine AL_nil ?_
    refine hK5 _ _ _ ?_
    refine AC_block ?_
    refine AC_loopS [0, 1] (Nat) (fun j => [(5, i64 j)]) (fun j => []) (fun st => xs.length - st) (fun j => j ≤ xs.length ∧ True) (0) ?_ ?_ ?_
    · skip
      exact enterS [] rfl rfl BxTo_nil (SlTo_cons (by first | exact .rd .d | exact Vw_int (by first | rfl | assumption | omega | (simp; done) | (simp; omega)) | exact Vw_c (by first | rfl | (simp; done) | simp_all) | exact .any) (SlTo_cons (by first | exact .rd .d | exact .any) (SlTo_cons (by first | exact .rd .d | exact .any) SlTo_nil)))
    · skip
      exact ⟨Nat.zero_le _, trivial⟩
    rintro j ⟨hj, hI⟩
    show AC _ _ _ _ _ (FS [0, 1] _ [(5, i64 j)]) []
    refine AC_seq fun K6 hK6 => ?_
    refine AC_seq fun K7 hK7 => ?_
    refine AC_region ?_
    refine AL_ev (Ev_move) rfl ?_
    refine AL_ev (Ev_move) rfl ?_
    first | refine AL_lim (x := (Operand.tmp 12)) rfl fun hl3 => ?_ | refine AL_limB (x := (Operand.tmp 12)) rfl rfl (by first | rfl | (simp; done) | (simp; omega)) fun hl3 => ?_ | have hl3 := True.intro
    try simp only [injs_length, ints_length, strs_length, injCs_length, List.length_map] at hl3
    first | refine AL_ev (Ev_len_strs te23 rfl) rfl ?_ | refine AL_ev (Ev_len_sl te23 rfl) rfl ?_ | refine AL_ev (Ev_len_ref te23 rfl) rfl ?_ | refine AL_ev (Ev_len_nil te23 rfl) rfl ?_ | refine AL_ev (Ev_len_c te23 rfl) rfl ?_
    refine AL_ev (Ev_lss rfl rfl) rfl ?_
    refine AL_nil ?_
    refine hK7 _ _ _ ?_
    refine AC_cond rfl (fun hc2 => ?_) (fun hc2 => ?_)
    · skip
      have hlt : j < xs.length := by simpa using hc2
      obtain ⟨u, hu⟩ : ∃ x, xs[j]? = some x := ⟨_, List.getElem?_eq_getElem hlt⟩
      have hu2 := strs_get hu
      have hdr := drop_get hu
      refine AC_skip ?_
      refine hK6 _ _ _ ?_
      refine AC_seq fun K8 hK8 => ?_
      refine AC_block ?_
      refine AC_seq fun K9 hK9 => ?_
      refine AC_draw hT follows [0, 1, 2, 3, 4, 5, 6, 7, 8] (by kernel_rfl) ?_
      refine DT_ev rfl (EA_move) rfl ?_
      refine DT_ev rfl (EA_move) rfl ?_
      first | refine DT_ev rfl (EA_ix_sl rfl rfl te23 ts9 (by omega) (by assumption)) rfl ?_ | refine DT_ev rfl (EA_ix_ref rfl rfl te23 ts9 (by omega) (by first | omega | (simp; omega))) rfl ?_
      first | refine DT_ev rfl (EA_load_ptr rfl rfl rfl rfl rfl rfl ts9 ta9 rfl (fun _ => rfl)) rfl ?_ | refine DT_ev rfl (EA_load_rp rfl rfl rfl ts9 ta9 rfl (fun _ => rfl)) rfl ?_
      refine DT_ev rfl (EA_move) rfl ?_
      refine DT_ev rfl (EA_move) rfl ?_
      first | refine DT_ev rfl (EA_ix_sl rfl rfl te23 ts9 (by omega) (by assumption)) rfl ?_ | refine DT_ev rfl (EA_ix_ref rfl rfl te23 ts9 (by omega) (by first | omega | (simp; omega))) rfl ?_
      first | refine DT_ev rfl (EA_load_ptr rfl rfl rfl rfl rfl rfl ts9 ta9 rfl (fun _ => rfl)) rfl ?_ | refine DT_ev rfl (EA_load_rp rfl rfl rfl ts9 ta9 rfl (fun _ => rfl)) rfl ?_
      refine DT_ev rfl (EA_sneq rfl rfl) rfl ?_
      refine DTi.nil ?_
      refine hK9 _ _ _ ?_
      refine AC_cond rfl (fun hc3 => ?_) (fun hc3 => ?_)
      · skip
        exact absurd hc3 (by simp)
      · skip
        refine AC_skip ?_
        refine hK8 _ _ _ ?_
        refine AC_region ?_
        refine AL_ev (Ev_move) rfl ?_
        first | refine AL_ev (Ev_add rfl rfl _ (wrap_id (by first | omega | (simp; omega)) (by first | omega | (simp; omega)))) rfl ?_ | refine AL_ev (Ev_add rfl rfl _ rfl) rfl ?_
        refine AL_ev (Ev_assign) rfl ?_
        refine AL_nil ?_
        refine closeS (j + 1) [] rfl rfl (by show xs.length - (j + 1) < xs.length - j; omega) ⟨hlt, ?_⟩ BxTo_nil (SlTo_cons (by first | exact .rd .d | exact Vw_int (by first | rfl | assumption | omega | (simp; done) | (simp; omega)) | exact Vw_c (by first | rfl | (simp; done) | simp_all) | exact .any) (SlTo_cons (by first | exact .rd .d | exact .any) (SlTo_cons (by first | exact .rd .d | exact .any) SlTo_nil)))
        trivial
    · skip
      have hj2 : j = xs.length := by
        have : ¬ j < xs.length := by simpa using hc2
        omega
      subst hj2
      refine AC_exit ?_
      refine hK4 _ _ _ ?_
      refine AC_seq fun K10 hK10 => ?_
      refine AC_region ?_
      refine AL_ev (Ev_assign) rfl ?_
      refine AL_nil ?_
      refine hK10 _ _ _ ?_
      refine AC_ret ?_
      exact ret_ok hdm (.tmp rfl rfl .nil) (.cons .d .nil) rfl

set_option maxHeartbeats 1000000 in
set_option maxRecDepth 4000 in
theorem c_eqClauseS (xs : List Cl) : PCall Tryd.prog 27 [.sl LC (injCs xs), .sl LC (injCs xs)] (· = [.c (.bool true)]) := by
  refine PCall_of (n := 27) Tryd.func27 rfl rfl (Nat.le_of_ble_eq_true rfl) fun C hdm hT0 => ?_
  have hT := hT0
  refine AC_seq fun K1 hK1 => ?_
  refine AC_region ?_
  refine AL_ev (Ev_assign) rfl ?_
  refine AL_nil ?_
  refine hK1 _ _ _ ?_
  refine AC_seq fun K2 hK2 => ?_
  refine AC_seq fun K3 hK3 => ?_
  refine AC_region ?_
  refine AL_ev (Ev_move) rfl ?_
  first | refine AL_lim (x := (Operand.tmp 6)) rfl fun hl1 => ?_ | refine AL_limB (x := (Operand.tmp 6)) rfl rfl (by first | rfl | (simp; done) | (simp; omega)) fun hl1 => ?_ | have hl1 := True.intro
  try simp only [injs_length, ints_length, strs_length, injCs_length, List.length_map] at hl1
  first | refine AL_ev (Ev_len_injCs te30 rfl) rfl ?_ | refine AL_ev (Ev_len_sl te30 rfl) rfl ?_ | refine AL_ev (Ev_len_ref te30 rfl) rfl ?_ | refine AL_ev (Ev_len_nil te30 rfl) rfl ?_ | refine AL_ev (Ev_len_c te30 rfl) rfl ?_
  refine AL_ev (Ev_move) rfl ?_
  first | refine AL_lim (x := (Operand.tmp 8)) rfl fun hl2 => ?_ | refine AL_limB (x := (Operand.tmp 8)) rfl rfl (by first | rfl | (simp; done) | (simp; omega)) fun hl2 => ?_ | have hl2 := True.intro
  try simp only [injs_length, ints_length, strs_length, injCs_length, List.length_map] at hl2
  first | refine AL_ev (Ev_len_injCs te30 rfl) rfl ?_ | refine AL_ev (Ev_len_sl te30 rfl) rfl ?_ | refine AL_ev (Ev_len_ref te30 rfl) rfl ?_ | refine AL_ev (Ev_len_nil te30 rfl) rfl ?_ | refine AL_ev (Ev_len_c te30 rfl) rfl ?_
  refine AL_ev (Ev_neq rfl rfl) rfl ?_
  refine AL_nil ?_
  refine hK3 _ _ _ ?_
  refine AC_cond rfl (fun hc1 => ?_) (fun hc1 => ?_)
  · skip
    exact absurd hc1 (by simp)
  · skip
    refine AC_skip ?_
    refine hK2 _ _ _ ?_
    refine AC_seq fun K4 hK4 => ?_
    refine AC_seq fun K5 hK5 => ?_
    refine AC_region ?_
    refine AL_ev (Ev_assign) rfl ?_
    refine AL_nil ?_
    refine hK5 _ _ _ ?_
    refine AC_block ?_
    refine AC_loopS [0, 1] (Nat) (fun j => [(5, i64 j)]) (fun j => []) (fun st => xs.length - st) (fun j => j ≤ xs.length ∧ True) (0) ?_ ?_ ?_
    · skip
      exact enterS [] rfl rfl BxTo_nil (SlTo_cons (by first | exact .rd .d | exact Vw_int (by first | rfl | assumption | omega | (simp; done) | (simp; omega)) | exact Vw_c (by first | rfl | (simp; done) | simp_all) | exact .any) (SlTo_cons (by first | exact .rd .d | exact .any) (SlTo_cons (by first | exact .rd .d | exact .any) SlTo_nil)))
    · skip
      exact ⟨Nat.zero_le _, trivial⟩
    rintro j ⟨hj, hI⟩
    show AC _ _ _ _ _ (FS [0, 1] _ [(5, i64 j)]) []
    refine AC_seq fun K6 hK6 => ?_
    refine AC_seq fun K7 hK7 => ?_
    refine AC_region ?_
    refine AL_ev (Ev_move) rfl ?_
    refine AL_ev (Ev_move) rfl ?_
    first | refine AL_lim (x := (Operand.tmp 12)) rfl fun hl3 => ?_ | refine AL_limB (x := (Operand.tmp 12)) rfl rfl (by first | rfl | (simp; done) | (simp; omega)) fun hl3 => ?_ | have hl3 := True.intro
    try simp only [injs_length, ints_length, strs_length, injCs_length, List.length_map] at hl3
    first | refine AL_ev (Ev_len_injCs te30 rfl) rfl ?_ | refine AL_ev (Ev_len_sl te30 rfl) rfl ?_ | refine AL_ev (Ev_len_ref te30 rfl) rfl ?_ | refine AL_ev (Ev_len_nil te30 rfl) rfl ?_ | refine AL_ev (Ev_len_c te30 rfl) rfl ?_
    refine AL_ev (Ev_lss rfl rfl) rfl ?_
    refine AL_nil ?_
    refine hK7 _ _ _ ?_
    refine AC_cond rfl (fun hc2 => ?_) (fun hc2 => ?_)
    · skip
      have hlt : j < xs.length := by simpa using hc2
      obtain ⟨u, hu⟩ : ∃ x, xs[j]? = some x := ⟨_, List.getElem?_eq_getElem hlt⟩
      have hu2 := injCs_get hu
      have hdr := drop_get hu
      refine AC_skip ?_
      refine hK6 _ _ _ ?_
      refine AC_seq fun K8 hK8 => ?_
      refine AC_block ?_
      refine AC_seq fun K9 hK9 => ?_
      refine AC_draw hT follows [0, 1, 2, 3, 4, 5, 6, 7, 8, 9] (by kernel_rfl) ?_
      refine DT_ev rfl (EA_move) rfl ?_
      refine DT_ev rfl (EA_move) rfl ?_
      first | refine DT_ev rfl (EA_ix_sl rfl rfl te30 ts50 (by omega) (by assumption)) rfl ?_ | refine DT_ev rfl (EA_ix_ref rfl rfl te30 ts50 (by omega) (by first | omega | (simp; omega))) rfl ?_
      first | refine DT_ev rfl (EA_load_ptr rfl rfl rfl rfl rfl rfl ts50 ta50 (by first | rfl | simp) (by intro h; cases h)) rfl ?_ | refine DT_ev rfl (EA_load_rp rfl rfl rfl ts50 ta50 (by first | rfl | simp) (by intro h; cases h)) rfl ?_
      refine DT_ev rfl (EA_move) rfl ?_
      refine DT_ev rfl (EA_move) rfl ?_
      first | refine DT_ev rfl (EA_ix_sl rfl rfl te30 ts50 (by omega) (by assumption)) rfl ?_ | refine DT_ev rfl (EA_ix_ref rfl rfl te30 ts50 (by omega) (by first | omega | (simp; omega))) rfl ?_
      first | refine DT_ev rfl (EA_load_ptr rfl rfl rfl rfl rfl rfl ts50 ta50 (by first | rfl | simp) (by intro h; cases h)) rfl ?_ | refine DT_ev rfl (EA_load_rp rfl rfl rfl ts50 ta50 (by first | rfl | simp) (by intro h; cases h)) rfl ?_
      refine DT_fcall0 rfl rfl cl42 (c_eqClause u) rfl rfl ?_
      refine DT_ev rfl (EA_not rfl) rfl ?_
      refine DTi.nil ?_
      refine hK9 _ _ _ ?_
      refine AC_cond rfl (fun hc3 => ?_) (fun hc3 => ?_)
      · skip
        exact absurd hc3 (by simp)
      · skip
        refine AC_skip ?_
        refine hK8 _ _ _ ?_
        refine AC_region ?_
        refine AL_ev (Ev_move) rfl ?_
        first | refine AL_ev (Ev_add rfl rfl _ (wrap_id (by first | omega | (simp; omega)) (by first | omega | (simp; omega)))) rfl ?_ | refine AL_ev (Ev_add rfl rfl _ rfl) rfl ?_
        refine AL_ev (Ev_assign) rfl ?_
        refine AL_nil ?_
        refine closeS (j + 1) [] rfl rfl (by show xs.length - (j + 1) < xs.length - j; omega) ⟨hlt, ?_⟩ BxTo_nil (SlTo_cons (by first | exact .rd .d | exact Vw_int (by first | rfl | assumption | omega | (simp; done) | (simp; omega)) | exact Vw_c (by first | rfl | (simp; done) | simp_all) | exact .any) (SlTo_cons (by first | exact .rd .d | exact .any) (SlTo_cons (by first | exact .rd .d | exact .any) SlTo_nil)))
        trivial
    · skip
      have hj2 : j = xs.length := by
        have : ¬ j < xs.length := by simpa using hc2
        omega
      subst hj2
      refine AC_exit ?_
      refine hK4 _ _ _ ?_
      refine AC_seq fun K10 hK10 => ?_
      refine AC_region ?_
      refine AL_ev (Ev_assign) rfl ?_
      refine AL_nil ?_
      refine hK10 _ _ _ ?_
      refine AC_ret ?_
      exact ret_ok hdm (.tmp rfl rfl .nil) (.cons .d .nil) rfl

set_option maxHeartbeats 1000000 in
set_option maxRecDepth 4000 in
theorem c_eqDb (d : Dbt) : PCall Tryd.prog 9 [injD d, injD d] (· = [.c (.bool true)]) := by
  obtain ⟨cs, op⟩ := d
  refine PCall_of (n := 17) Tryd.func9 rfl rfl (Nat.le_of_ble_eq_true rfl) fun C hdm hT0 => ?_
  have hT := hT0
  refine AC_seq fun K1 hK1 => ?_
  refine AC_region ?_
  refine AL_box (Lay.st [.one, .one]) (nf rfl) rfl (by first | rfl | simp [Lay.len, Lay.lens]) _ rfl rfl ?_
  refine AL_box (Lay.st [.one, .one]) (nf rfl) rfl (by first | rfl | simp [Lay.len, Lay.lens]) _ rfl rfl ?_
  refine AL_ev (Ev_assign) rfl ?_
  refine AL_nil ?_
  refine hK1 _ _ _ ?_
  refine AC_seq fun K2 hK2 => ?_
  refine AC_seq fun K3 hK3 => ?_
  refine AC_region ?_
  first | refine AL_ev (Ev_fa_ptr rfl fa32_0 rfl rfl) rfl ?_ | refine AL_ev (Ev_fa_rp rfl fa32_0 rfl rfl) rfl ?_
  first | refine AL_ev (Ev_load_ptr rfl rfl rfl rfl rfl rfl ts30 ta30 rfl (fun _ => rfl)) rfl ?_ | refine AL_ev (Ev_load_rp rfl rfl rfl ts30 ta30 rfl (fun _ => rfl)) rfl ?_
  first | refine AL_ev (Ev_fa_ptr rfl fa32_0 rfl rfl) rfl ?_ | refine AL_ev (Ev_fa_rp rfl fa32_0 rfl rfl) rfl ?_
  first | refine AL_ev (Ev_load_ptr rfl rfl rfl rfl rfl rfl ts30 ta30 rfl (fun _ => rfl)) rfl ?_ | refine AL_ev (Ev_load_rp rfl rfl rfl ts30 ta30 rfl (fun _ => rfl)) rfl ?_
  refine AL_fcall0 hT rfl cl27 (c_eqClauseS cs) rfl rfl ?_
  refine AL_ev (Ev_not rfl) rfl ?_
  refine AL_nil ?_
  refine hK3 _ _ _ ?_
  refine AC_cond rfl (fun hc1 => ?_) (fun hc1 => ?_)
  · skip
    exact absurd hc1 (by simp)
  · skip
    refine AC_skip ?_
    refine hK2 _ _ _ ?_
    refine AC_seq fun K4 hK4 => ?_
    refine AC_seq fun K5 hK5 => ?_
    refine AC_region ?_
    first | refine AL_ev (Ev_fa_ptr rfl fa32_1 rfl rfl) rfl ?_ | refine AL_ev (Ev_fa_rp rfl fa32_1 rfl rfl) rfl ?_
    first | refine AL_ev (Ev_load_ptr rfl rfl rfl rfl rfl rfl ts23 ta23 rfl (fun _ => rfl)) rfl ?_ | refine AL_ev (Ev_load_rp rfl rfl rfl ts23 ta23 rfl (fun _ => rfl)) rfl ?_
    first | refine AL_ev (Ev_fa_ptr rfl fa32_1 rfl rfl) rfl ?_ | refine AL_ev (Ev_fa_rp rfl fa32_1 rfl rfl) rfl ?_
    first | refine AL_ev (Ev_load_ptr rfl rfl rfl rfl rfl rfl ts23 ta23 rfl (fun _ => rfl)) rfl ?_ | refine AL_ev (Ev_load_rp rfl rfl rfl ts23 ta23 rfl (fun _ => rfl)) rfl ?_
    refine AL_fcall0 hT rfl cl28 (c_eqStringS op) rfl rfl ?_
    refine AL_ev (Ev_not rfl) rfl ?_
    refine AL_nil ?_
    refine hK5 _ _ _ ?_
    refine AC_cond rfl (fun hc2 => ?_) (fun hc2 => ?_)
    · skip
      exact absurd hc2 (by simp)
    · skip
      refine AC_skip ?_
      refine hK4 _ _ _ ?_
      refine AC_seq fun K6 hK6 => ?_
      refine AC_region ?_
      refine AL_ev (Ev_assign) rfl ?_
      refine AL_nil ?_
      refine hK6 _ _ _ ?_
      refine AC_ret ?_
      exact ret_ok hdm (.tmp rfl rfl .nil) (.cons .d .nil) rfl

set_option maxHeartbeats 1000000 in
set_option maxRecDepth 4000 in
theorem c_szStringS (ss : List ByteArray) (l : Int) (h0 : ss.length + bulkSs ss ≤ l) (h9 : l ≤ 1099511627776) : PCall Tryd.prog 14 [.sl .one (strs ss), .c (.int .i64 l)] (· = [.c (.int .i64 (l - (ss.length + bulkSs ss)))]) := by
  have hn := bulkSs_nn ss
  refine PCall_of (n := 28) Tryd.func14 rfl rfl (Nat.le_of_ble_eq_true rfl) fun C hdm hT0 => ?_
  have hT := hT0
  refine AC_seq fun K1 hK1 => ?_
  refine AC_region ?_
  refine AL_ev (Ev_assign) rfl ?_
  refine AL_nil ?_
  refine hK1 _ _ _ ?_
  refine AC_seq fun K2 hK2 => ?_
  refine AC_region ?_
  refine AL_ev (Ev_move) rfl ?_
  refine AL_ev (Ev_move) rfl ?_
  first | refine AL_lim (x := (Operand.tmp 7)) rfl fun hl1 => ?_ | refine AL_limB (x := (Operand.tmp 7)) rfl rfl (by first | rfl | (simp; done) | (simp; omega)) fun hl1 => ?_ | have hl1 := True.intro
  try simp only [injs_length, ints_length, strs_length, injCs_length, List.length_map] at hl1
  first | refine AL_ev (Ev_len_strs te23 rfl) rfl ?_ | refine AL_ev (Ev_len_sl te23 rfl) rfl ?_ | refine AL_ev (Ev_len_ref te23 rfl) rfl ?_ | refine AL_ev (Ev_len_nil te23 rfl) rfl ?_ | refine AL_ev (Ev_len_c te23 rfl) rfl ?_
  first | refine AL_ev (Ev_sub rfl rfl _ (wrap_id (by first | omega | (simp; omega)) (by first | omega | (simp; omega)))) rfl ?_ | refine AL_ev (Ev_sub rfl rfl _ rfl) rfl ?_
  refine AL_ev (Ev_assign) rfl ?_
  refine AL_nil ?_
  refine hK2 _ _ _ ?_
  refine AC_seq fun K3 hK3 => ?_
  refine AC_seq fun K4 hK4 => ?_
  refine AC_region ?_
  refine AL_ev (Ev_move) rfl ?_
  refine AL_ev (Ev_lss rfl rfl) rfl ?_
  refine AL_nil ?_
  refine hK4 _ _ _ ?_
  refine AC_cond rfl (fun hc1 => ?_) (fun hc1 => ?_)
  · skip
    have : l - (ss.length : Int) < 0 := by simpa using hc1
    omega
  · skip
    refine AC_skip ?_
    refine hK3 _ _ _ ?_
    refine AC_seq fun K5 hK5 => ?_
    refine AC_seq fun K6 hK6 => ?_
    refine AC_region ?_
    refine AL_ev (Ev_assign) rfl ?_
    refine AL_nil ?_
    refine hK6 _ _ _ ?_
    refine AC_block ?_
    refine AC_loopS [0] (Nat × Int) (fun ⟨j, q⟩ => [(5, i64 j), (1, i64 q)]) (fun ⟨j, q⟩ => []) (fun st => ss.length - st.1) (fun ⟨j, q⟩ => j ≤ ss.length ∧ (l - ss.length - bulkSs ss = q - bulkSs (ss.drop j) ∧ q ≤ l)) ((0, l - ss.length)) ?_ ?_ ?_
    · skip
      exact enterS [] rfl rfl BxTo_nil (SlTo_cons (by first | exact .rd .d | exact Vw_int (by first | rfl | assumption | omega | (simp; done) | (simp; omega)) | exact Vw_c (by first | rfl | (simp; done) | simp_all) | exact .any) (SlTo_cons (by first | exact .rd .d | exact Vw_int (by first | rfl | assumption | omega | (simp; done) | (simp; omega)) | exact Vw_c (by first | rfl | (simp; done) | simp_all) | exact .any) (SlTo_cons (by first | exact .rd .d | exact .any) SlTo_nil)))
    · skip
      exact ⟨Nat.zero_le _, by simp, by omega⟩
    rintro ⟨j, q⟩ ⟨hj, ⟨hI, hq⟩⟩
    show AC _ _ _ _ _ (FS [0] _ [(5, i64 j), (1, i64 q)]) []
    refine AC_seq fun K7 hK7 => ?_
    refine AC_seq fun K8 hK8 => ?_
    refine AC_region ?_
    refine AL_ev (Ev_move) rfl ?_
    refine AL_ev (Ev_move) rfl ?_
    first | refine AL_lim (x := (Operand.tmp 13)) rfl fun hl2 => ?_ | refine AL_limB (x := (Operand.tmp 13)) rfl rfl (by first | rfl | (simp; done) | (simp; omega)) fun hl2 => ?_ | have hl2 := True.intro
    try simp only [injs_length, ints_length, strs_length, injCs_length, List.length_map] at hl2
    first | refine AL_ev (Ev_len_strs te23 rfl) rfl ?_ | refine AL_ev (Ev_len_sl te23 rfl) rfl ?_ | refine AL_ev (Ev_len_ref te23 rfl) rfl ?_ | refine AL_ev (Ev_len_nil te23 rfl) rfl ?_ | refine AL_ev (Ev_len_c te23 rfl) rfl ?_
    refine AL_ev (Ev_lss rfl rfl) rfl ?_
    refine AL_nil ?_
    refine hK8 _ _ _ ?_
    refine AC_cond rfl (fun hc2 => ?_) (fun hc2 => ?_)
    · skip
      have hlt : j < ss.length := by simpa using hc2
      obtain ⟨u, hu⟩ : ∃ x, ss[j]? = some x := ⟨_, List.getElem?_eq_getElem hlt⟩
      have hu2 := strs_get hu
      have hdr := drop_get hu
      rw [hdr, bulkSs] at hI
      have hnr := bulkSs_nn (ss.drop (j + 1))
      refine AC_skip ?_
      refine hK7 _ _ _ ?_
      refine AC_seq fun K9 hK9 => ?_
      refine AC_block ?_
      refine AC_seq fun K10 hK10 => ?_
      refine AC_region ?_
      refine AL_ev (Ev_move) rfl ?_
      refine AL_ev (Ev_move) rfl ?_
      refine AL_ev (Ev_move) rfl ?_
      first | refine AL_ev (Ev_ix_sl rfl rfl te23 ts9 (by omega) (by assumption)) rfl ?_ | refine AL_ev (Ev_ix_ref rfl rfl te23 ts9 (by omega) (by first | omega | (simp; omega))) rfl ?_
      first | refine AL_ev (Ev_load_ptr rfl rfl rfl rfl rfl rfl ts9 ta9 rfl (fun _ => rfl)) rfl ?_ | refine AL_ev (Ev_load_rp rfl rfl rfl ts9 ta9 rfl (fun _ => rfl)) rfl ?_
      refine AL_ev (Ev_len_str tstr9 rfl) rfl ?_
      first | refine AL_ev (Ev_sub rfl rfl _ (wrap_id (by first | omega | (simp; omega)) (by first | omega | (simp; omega)))) rfl ?_ | refine AL_ev (Ev_sub rfl rfl _ rfl) rfl ?_
      refine AL_ev (Ev_assign) rfl ?_
      refine AL_nil ?_
      refine hK10 _ _ _ ?_
      refine AC_seq fun K11 hK11 => ?_
      refine AC_region ?_
      refine AL_ev (Ev_move) rfl ?_
      refine AL_ev (Ev_lss rfl rfl) rfl ?_
      refine AL_nil ?_
      refine hK11 _ _ _ ?_
      refine AC_cond rfl (fun hc3 => ?_) (fun hc3 => ?_)
      · skip
        have : q - (u.size : Int) < 0 := by simpa using hc3
        omega
      · skip
        refine AC_skip ?_
        refine hK9 _ _ _ ?_
        refine AC_region ?_
        refine AL_ev (Ev_move) rfl ?_
        first | refine AL_ev (Ev_add rfl rfl _ (wrap_id (by first | omega | (simp; omega)) (by first | omega | (simp; omega)))) rfl ?_ | refine AL_ev (Ev_add rfl rfl _ rfl) rfl ?_
        refine AL_ev (Ev_assign) rfl ?_
        refine AL_nil ?_
        refine closeS (j + 1, q - u.size) [] rfl rfl (by show ss.length - (j + 1) < ss.length - j; omega) ⟨hlt, ?_⟩ BxTo_nil (SlTo_cons (by first | exact .rd .d | exact Vw_int (by first | rfl | assumption | omega | (simp; done) | (simp; omega)) | exact Vw_c (by first | rfl | (simp; done) | simp_all) | exact .any) (SlTo_cons (by first | exact .rd .d | exact Vw_int (by first | rfl | assumption | omega | (simp; done) | (simp; omega)) | exact Vw_c (by first | rfl | (simp; done) | simp_all) | exact .any) (SlTo_cons (by first | exact .rd .d | exact .any) SlTo_nil)))
        exact ⟨by omega, by omega⟩
    · skip
      have hj2 : j = ss.length := by
        have : ¬ j < ss.length := by simpa using hc2
        omega
      subst hj2
      rw [List.drop_length] at hI
      refine AC_exit ?_
      refine hK5 _ _ _ ?_
      refine AC_seq fun K12 hK12 => ?_
      refine AC_region ?_
      refine AL_ev (Ev_move) rfl ?_
      refine AL_ev (Ev_assign) rfl ?_
      refine AL_nil ?_
      refine hK12 _ _ _ ?_
      refine AC_ret ?_
      refine ret_ok hdm (.tmp rfl rfl .nil) (.cons .d .nil) ?_
      rw [bulkSs] at hI
      congr 3
      omega

set_option maxHeartbeats 1000000 in
set_option maxRecDepth 4000 in
theorem c_szClauseS (cs : List Cl) (l : Int) (h0 : cs.length + bulkCs cs ≤ l) (h9 : l ≤ 1099511627776) : PCall Tryd.prog 13 [.sl LC (injCs cs), .c (.int .i64 l)] (· = [.c (.int .i64 (l - (cs.length + bulkCs cs)))]) := by
  have hn := bulkCs_nn cs
  refine PCall_of (n := 27) Tryd.func13 rfl rfl (Nat.le_of_ble_eq_true rfl) fun C hdm hT0 => ?_
  have hT := hT0
  refine AC_seq fun K1 hK1 => ?_
  refine AC_region ?_
  refine AL_ev (Ev_assign) rfl ?_
  refine AL_nil ?_
  refine hK1 _ _ _ ?_
  refine AC_seq fun K2 hK2 => ?_
  refine AC_region ?_
  refine AL_ev (Ev_move) rfl ?_
  refine AL_ev (Ev_move) rfl ?_
  first | refine AL_lim (x := (Operand.tmp 7)) rfl fun hl1 => ?_ | refine AL_limB (x := (Operand.tmp 7)) rfl rfl (by first | rfl | (simp; done) | (simp; omega)) fun hl1 => ?_ | have hl1 := True.intro
  try simp only [injs_length, ints_length, strs_length, injCs_length, List.length_map] at hl1
  first | refine AL_ev (Ev_len_injCs te22 rfl) rfl ?_ | refine AL_ev (Ev_len_sl te22 rfl) rfl ?_ | refine AL_ev (Ev_len_ref te22 rfl) rfl ?_ | refine AL_ev (Ev_len_nil te22 rfl) rfl ?_ | refine AL_ev (Ev_len_c te22 rfl) rfl ?_
  first | refine AL_ev (Ev_sub rfl rfl _ (wrap_id (by first | omega | (simp; omega)) (by first | omega | (simp; omega)))) rfl ?_ | refine AL_ev (Ev_sub rfl rfl _ rfl) rfl ?_
  refine AL_ev (Ev_assign) rfl ?_
  refine AL_nil ?_
  refine hK2 _ _ _ ?_
  refine AC_seq fun K3 hK3 => ?_
  refine AC_seq fun K4 hK4 => ?_
  refine AC_region ?_
  refine AL_ev (Ev_move) rfl ?_
  refine AL_ev (Ev_lss rfl rfl) rfl ?_
  refine AL_nil ?_
  refine hK4 _ _ _ ?_
  refine AC_cond rfl (fun hc1 => ?_) (fun hc1 => ?_)
  · skip
    have : l - (cs.length : Int) < 0 := by simpa using hc1
    omega
  · skip
    refine AC_skip ?_
    refine hK3 _ _ _ ?_
    refine AC_seq fun K5 hK5 => ?_
    refine AC_seq fun K6 hK6 => ?_
    refine AC_region ?_
    refine AL_ev (Ev_assign) rfl ?_
    refine AL_nil ?_
    refine hK6 _ _ _ ?_
    refine AC_block ?_
    refine AC_loopS [0] (Nat × Int) (fun ⟨j, q⟩ => [(5, i64 j), (1, i64 q)]) (fun ⟨j, q⟩ => []) (fun st => cs.length - st.1) (fun ⟨j, q⟩ => j ≤ cs.length ∧ (l - cs.length - bulkCs cs = q - bulkCs (cs.drop j) ∧ q ≤ l)) ((0, l - cs.length)) ?_ ?_ ?_
    · skip
      exact enterS [] rfl rfl BxTo_nil (SlTo_cons (by first | exact .rd .d | exact Vw_int (by first | rfl | assumption | omega | (simp; done) | (simp; omega)) | exact Vw_c (by first | rfl | (simp; done) | simp_all) | exact .any) (SlTo_cons (by first | exact .rd .d | exact Vw_int (by first | rfl | assumption | omega | (simp; done) | (simp; omega)) | exact Vw_c (by first | rfl | (simp; done) | simp_all) | exact .any) (SlTo_cons (by first | exact .rd .d | exact .any) SlTo_nil)))
    · skip
      exact ⟨Nat.zero_le _, by simp, by omega⟩
    rintro ⟨j, q⟩ ⟨hj, ⟨hI, hq⟩⟩
    show AC _ _ _ _ _ (FS [0] _ [(5, i64 j), (1, i64 q)]) []
    refine AC_seq fun K7 hK7 => ?_
    refine AC_seq fun K8 hK8 => ?_
    refine AC_region ?_
    refine AL_ev (Ev_move) rfl ?_
    refine AL_ev (Ev_move) rfl ?_
    first | refine AL_lim (x := (Operand.tmp 13)) rfl fun hl2 => ?_ | refine AL_limB (x := (Operand.tmp 13)) rfl rfl (by first | rfl | (simp; done) | (simp; omega)) fun hl2 => ?_ | have hl2 := True.intro
    try simp only [injs_length, ints_length, strs_length, injCs_length, List.length_map] at hl2
    first | refine AL_ev (Ev_len_injCs te22 rfl) rfl ?_ | refine AL_ev (Ev_len_sl te22 rfl) rfl ?_ | refine AL_ev (Ev_len_ref te22 rfl) rfl ?_ | refine AL_ev (Ev_len_nil te22 rfl) rfl ?_ | refine AL_ev (Ev_len_c te22 rfl) rfl ?_
    refine AL_ev (Ev_lss rfl rfl) rfl ?_
    refine AL_nil ?_
    refine hK8 _ _ _ ?_
    refine AC_cond rfl (fun hc2 => ?_) (fun hc2 => ?_)
    · skip
      have hlt : j < cs.length := by simpa using hc2
      obtain ⟨u, hu⟩ : ∃ x, cs[j]? = some x := ⟨_, List.getElem?_eq_getElem hlt⟩
      have hu2 := injCs_get hu
      have hdr := drop_get hu
      rw [hdr, bulkCs] at hI
      have hnr := bulkCs_nn (cs.drop (j + 1))
      have hu1 := bulk_nn u.h
      have hu3 := bulk_nn u.b
      refine AC_skip ?_
      refine hK7 _ _ _ ?_
      refine AC_seq fun K9 hK9 => ?_
      refine AC_block ?_
      refine AC_seq fun K10 hK10 => ?_
      refine AC_region ?_
      refine AL_ev (Ev_move) rfl ?_
      refine AL_ev (Ev_move) rfl ?_
      first | refine AL_ev (Ev_ix_sl rfl rfl te22 ts64 (by omega) (by assumption)) rfl ?_ | refine AL_ev (Ev_ix_ref rfl rfl te22 ts64 (by omega) (by first | omega | (simp; omega))) rfl ?_
      first | refine AL_ev (Ev_load_ptr rfl rfl rfl rfl rfl rfl ts64 ta64 (by first | rfl | simp) (by intro h; cases h)) rfl ?_ | refine AL_ev (Ev_load_rp rfl rfl rfl ts64 ta64 (by first | rfl | simp) (by intro h; cases h)) rfl ?_
      refine AL_ev (Ev_move) rfl ?_
      refine AL_fcall0 hT rfl cl31 (c_szClause u q (by unfold bulkC at hI; omega) (by omega)) rfl rfl ?_
      refine AL_ev (Ev_assign) rfl ?_
      refine AL_nil ?_
      refine hK10 _ _ _ ?_
      refine AC_seq fun K11 hK11 => ?_
      refine AC_region ?_
      refine AL_ev (Ev_move) rfl ?_
      refine AL_ev (Ev_lss rfl rfl) rfl ?_
      refine AL_nil ?_
      refine hK11 _ _ _ ?_
      refine AC_cond rfl (fun hc3 => ?_) (fun hc3 => ?_)
      · skip
        have : q - bulk u.h - bulk u.b - (u.f.size : Int) < 0 := by simpa using hc3
        unfold bulkC at hI
        omega
      · skip
        refine AC_skip ?_
        refine hK9 _ _ _ ?_
        refine AC_region ?_
        refine AL_ev (Ev_move) rfl ?_
        first | refine AL_ev (Ev_add rfl rfl _ (wrap_id (by first | omega | (simp; omega)) (by first | omega | (simp; omega)))) rfl ?_ | refine AL_ev (Ev_add rfl rfl _ rfl) rfl ?_
        refine AL_ev (Ev_assign) rfl ?_
        refine AL_nil ?_
        refine closeS (j + 1, q - bulk u.h - bulk u.b - u.f.size) [] rfl rfl (by show cs.length - (j + 1) < cs.length - j; omega) ⟨hlt, ?_⟩ BxTo_nil (SlTo_cons (by first | exact .rd .d | exact Vw_int (by first | rfl | assumption | omega | (simp; done) | (simp; omega)) | exact Vw_c (by first | rfl | (simp; done) | simp_all) | exact .any) (SlTo_cons (by first | exact .rd .d | exact Vw_int (by first | rfl | assumption | omega | (simp; done) | (simp; omega)) | exact Vw_c (by first | rfl | (simp; done) | simp_all) | exact .any) (SlTo_cons (by first | exact .rd .d | exact .any) SlTo_nil)))
        unfold bulkC at hI
        exact ⟨by omega, by omega⟩
    · skip
      have hj2 : j = cs.length := by
        have : ¬ j < cs.length := by simpa using hc2
        omega
      subst hj2
      rw [List.drop_length] at hI
      refine AC_exit ?_
      refine hK5 _ _ _ ?_
      refine AC_seq fun K12 hK12 => ?_
      refine AC_region ?_
      refine AL_ev (Ev_move) rfl ?_
      refine AL_ev (Ev_assign) rfl ?_
      refine AL_nil ?_
      refine hK12 _ _ _ ?_
      refine AC_ret ?_
      refine ret_ok hdm (.tmp rfl rfl .nil) (.cons .d .nil) ?_
      rw [bulkCs] at hI
      congr 3
      omega

set_option maxHeartbeats 1000000 in
set_option maxRecDepth 4000 in
theorem c_szDb (d : Dbt) (l : Int) (h0 : bulkD d ≤ l) (h9 : l ≤ 1099511627776) : PCall Tryd.prog 4 [injD d, .c (.int .i64 l)] (· = [.c (.int .i64 (l - bulkD d))]) := by
  obtain ⟨cs, op⟩ := d
  have hn1 := bulkCs_nn cs
  have hn2 := bulkSs_nn op
  have hbd : bulkD ⟨cs, op⟩ = cs.length + bulkCs cs + op.length + bulkSs op := rfl
  rw [hbd] at h0 ⊢
  refine PCall_of (n := 18) Tryd.func4 rfl rfl (Nat.le_of_ble_eq_true rfl) fun C hdm hT0 => ?_
  have hT := hT0
  refine AC_seq fun K1 hK1 => ?_
  refine AC_region ?_
  refine AL_box (Lay.st [.one, .one]) (nf rfl) rfl (by first | rfl | simp [Lay.len, Lay.lens]) _ rfl rfl ?_
  refine AL_ev (Ev_assign) rfl ?_
  refine AL_nil ?_
  refine hK1 _ _ _ ?_
  refine AC_seq fun K2 hK2 => ?_
  refine AC_region ?_
  first | refine AL_ev (Ev_fa_ptr rfl fa25_0 rfl rfl) rfl ?_ | refine AL_ev (Ev_fa_rp rfl fa25_0 rfl rfl) rfl ?_
  first | refine AL_ev (Ev_load_ptr rfl rfl rfl rfl rfl rfl ts22 ta22 rfl (fun _ => rfl)) rfl ?_ | refine AL_ev (Ev_load_rp rfl rfl rfl ts22 ta22 rfl (fun _ => rfl)) rfl ?_
  refine AL_ev (Ev_move) rfl ?_
  refine AL_fcall0 hT rfl cl13 (c_szClauseS cs l (by omega) h9) rfl rfl ?_
  refine AL_ev (Ev_assign) rfl ?_
  refine AL_nil ?_
  refine hK2 _ _ _ ?_
  refine AC_seq fun K3 hK3 => ?_
  refine AC_seq fun K4 hK4 => ?_
  refine AC_region ?_
  refine AL_ev (Ev_move) rfl ?_
  refine AL_ev (Ev_lss rfl rfl) rfl ?_
  refine AL_nil ?_
  refine hK4 _ _ _ ?_
  refine AC_cond rfl (fun hc1 => ?_) (fun hc1 => ?_)
  · skip
    have : l - (cs.length + bulkCs cs) < 0 := by simpa using hc1
    omega
  · skip
    refine AC_skip ?_
    refine hK3 _ _ _ ?_
    refine AC_seq fun K5 hK5 => ?_
    refine AC_region ?_
    first | refine AL_ev (Ev_fa_ptr rfl fa25_1 rfl rfl) rfl ?_ | refine AL_ev (Ev_fa_rp rfl fa25_1 rfl rfl) rfl ?_
    first | refine AL_ev (Ev_load_ptr rfl rfl rfl rfl rfl rfl ts23 ta23 rfl (fun _ => rfl)) rfl ?_ | refine AL_ev (Ev_load_rp rfl rfl rfl ts23 ta23 rfl (fun _ => rfl)) rfl ?_
    refine AL_ev (Ev_move) rfl ?_
    refine AL_fcall0 hT rfl cl14 (c_szStringS op (l - (cs.length + bulkCs cs)) (by omega) (by omega)) rfl rfl ?_
    refine AL_ev (Ev_assign) rfl ?_
    refine AL_nil ?_
    refine hK5 _ _ _ ?_
    refine AC_seq fun K6 hK6 => ?_
    refine AC_seq fun K7 hK7 => ?_
    refine AC_region ?_
    refine AL_ev (Ev_move) rfl ?_
    refine AL_ev (Ev_lss rfl rfl) rfl ?_
    refine AL_nil ?_
    refine hK7 _ _ _ ?_
    refine AC_cond rfl (fun hc2 => ?_) (fun hc2 => ?_)
    · skip
      have : l - (cs.length + bulkCs cs) - (op.length + bulkSs op) < 0 := by simpa using hc2
      omega
    · skip
      refine AC_skip ?_
      refine hK6 _ _ _ ?_
      refine AC_seq fun K8 hK8 => ?_
      refine AC_region ?_
      refine AL_ev (Ev_move) rfl ?_
      refine AL_ev (Ev_assign) rfl ?_
      refine AL_nil ?_
      refine hK8 _ _ _ ?_
      refine AC_ret ?_
      refine ret_ok hdm (.tmp rfl rfl .nil) (.cons .d .nil) ?_
      congr 3
      omega

set_option maxHeartbeats 1000000 in
set_option maxRecDepth 4000 in
theorem c_toStringS (ss : List ByteArray) : OCall Tryd.prog 19 [.sl .one (strs ss)] (.sl .one (strs ss)) := by
  refine OCall_of (n := 22) Tryd.func19 rfl rfl (Nat.le_of_ble_eq_true rfl) fun C0 hdm hT0 => ?_
  have hX0 := CExt.refl C0
  have hT := hT0
  refine AC_seq fun K1 hK1 => ?_
  refine AC_region ?_
  refine AL_ev (Ev_assign) rfl ?_
  refine AL_nil ?_
  refine hK1 _ _ _ ?_
  refine AC_seq fun K2 hK2 => ?_
  refine AC_region ?_
  refine AL_ev (Ev_move) rfl ?_
  first | refine AL_lim (x := (Operand.tmp 5)) rfl fun hl1 => ?_ | refine AL_limB (x := (Operand.tmp 5)) rfl rfl (by first | rfl | (simp; done) | (simp; omega)) fun hl1 => ?_ | have hl1 := True.intro
  try simp only [injs_length, ints_length, strs_length, injCs_length, List.length_map] at hl1
  first | refine AL_ev (Ev_len_strs te23 rfl) rfl ?_ | refine AL_ev (Ev_len_sl te23 rfl) rfl ?_ | refine AL_ev (Ev_len_ref te23 rfl) rfl ?_ | refine AL_ev (Ev_len_nil te23 rfl) rfl ?_ | refine AL_ev (Ev_len_c te23 rfl) rfl ?_
  refine AL_makeSlice .one te23 ts9 zo9 tb9 rfl (by simp only [lim]; first | omega | (simp; done) | (simp; omega)) (by first | omega | (simp; omega)) (by decide) _ rfl rfl ?_
  refine AL_ev (Ev_assign) rfl ?_
  refine AL_nil ?_
  refine hK2 _ _ _ ?_
  refine AC_seq fun K3 hK3 => ?_
  refine AC_seq fun K4 hK4 => ?_
  refine AC_region ?_
  refine AL_ev (Ev_assign) rfl ?_
  refine AL_nil ?_
  refine hK4 _ _ _ ?_
  refine AC_block ?_
  refine AC_loopS [0] (Nat) (fun j => [(4, i64 j), (3, .ref .one 0 0 (fillS ss j).length)]) (fun j => [some ⟨9, .one, (fillS ss j).map V.d⟩]) (fun st => ss.length - st) (fun j => j ≤ ss.length ∧ True) (0) ?_ ?_ ?_
  · skip
    exact enterS [some 0] rfl rfl (BxTo_some rfl rfl rfl rfl (by first | exact .nil | exact VwL_dd (by first | (simp [fillS_zero]; done) | rfl) | exact VwL_app (by first | (simp [fillS_zero]; done) | rfl) | exact VwL_of (by first | (simp [fillS_zero]; done) | rfl)) BxTo_nil) (SlTo_cons (by first | exact .rd .d | exact Vw_int (by first | rfl | assumption | omega | (simp; done) | (simp; omega)) | exact Vw_c (by first | rfl | (simp; done) | simp_all) | exact .any) (SlTo_cons (Vw_refe rfl (by first | rfl | simp)) (SlTo_cons (by first | exact .rd .d | exact .any) SlTo_nil)))
  · skip
    exact ⟨Nat.zero_le _, trivial⟩
  rintro j ⟨hj, hI⟩
  show AC _ _ _ _ _ (FS [0] _ [(4, i64 j), (3, .ref .one 0 0 (fillS ss j).length)]) [some ⟨9, .one, (fillS ss j).map V.d⟩]
  refine AC_seq fun K5 hK5 => ?_
  refine AC_seq fun K6 hK6 => ?_
  refine AC_region ?_
  refine AL_ev (Ev_move) rfl ?_
  refine AL_ev (Ev_move) rfl ?_
  first | refine AL_lim (x := (Operand.tmp 9)) rfl fun hl2 => ?_ | refine AL_limB (x := (Operand.tmp 9)) rfl rfl (by first | rfl | (simp; done) | (simp; omega)) fun hl2 => ?_ | have hl2 := True.intro
  try simp only [injs_length, ints_length, strs_length, injCs_length, List.length_map] at hl2
  first | refine AL_ev (Ev_len_strs te23 rfl) rfl ?_ | refine AL_ev (Ev_len_sl te23 rfl) rfl ?_ | refine AL_ev (Ev_len_ref te23 rfl) rfl ?_ | refine AL_ev (Ev_len_nil te23 rfl) rfl ?_ | refine AL_ev (Ev_len_c te23 rfl) rfl ?_
  refine AL_ev (Ev_lss rfl rfl) rfl ?_
  refine AL_nil ?_
  refine hK6 _ _ _ ?_
  refine AC_cond rfl (fun hc1 => ?_) (fun hc1 => ?_)
  · skip
    have hlt : j < ss.length := by simpa using hc1
    obtain ⟨u, hu⟩ : ∃ x, ss[j]? = some x := ⟨_, List.getElem?_eq_getElem hlt⟩
    have hu2 := strs_get hu
    have hdr := drop_get hu
    have hes := fillS_get hlt
    refine AC_skip ?_
    refine hK5 _ _ _ ?_
    refine AC_seq fun K7 hK7 => ?_
    refine AC_block ?_
    refine AC_region ?_
    refine AL_ev (Ev_move) rfl ?_
    refine AL_ev (Ev_move) rfl ?_
    refine AL_ev (Ev_move) rfl ?_
    refine AL_ev (Ev_move) rfl ?_
    first | refine AL_ev (Ev_ix_sl rfl rfl te23 ts9 (by omega) (by assumption)) rfl ?_ | refine AL_ev (Ev_ix_ref rfl rfl te23 ts9 (by omega) (by first | omega | (simp; omega))) rfl ?_
    first | refine AL_ev (Ev_load_ptr rfl rfl rfl rfl rfl rfl ts9 ta9 rfl (fun _ => rfl)) rfl ?_ | refine AL_ev (Ev_load_rp rfl rfl rfl ts9 ta9 rfl (fun _ => rfl)) rfl ?_
    first | refine AL_ev (Ev_ix_sl rfl rfl te23 ts9 (by omega) (by assumption)) rfl ?_ | refine AL_ev (Ev_ix_ref rfl rfl te23 ts9 (by omega) (by first | omega | (simp; omega))) rfl ?_
    first | refine AL_store rfl (nf rfl) rfl rfl rfl rfl rfl rfl (by first | rfl | simp [Lay.len, Lay.lens]) ts9 rfl rfl ?_ | refine AL_store rfl (nf rfl) rfl rfl rfl hes rfl rfl (by first | rfl | simp [Lay.len, Lay.lens]) ts9 rfl rfl ?_
    refine AL_nil ?_
    refine hK7 _ _ _ ?_
    refine AC_region ?_
    refine AL_ev (Ev_move) rfl ?_
    first | refine AL_ev (Ev_add rfl rfl _ (wrap_id (by first | omega | (simp; omega)) (by first | omega | (simp; omega)))) rfl ?_ | refine AL_ev (Ev_add rfl rfl _ rfl) rfl ?_
    refine AL_ev (Ev_assign) rfl ?_
    refine AL_nil ?_
    refine closeS (j + 1) [some 0] rfl rfl (by show ss.length - (j + 1) < ss.length - j; omega) ⟨hlt, ?_⟩ (BxTo_some rfl rfl rfl rfl (by first | exact VwL_app (by exact fillS_set hu) | exact VwL_dd (by exact fillS_set hu) | exact VwL_of (by exact fillS_set hu)) BxTo_nil) (SlTo_cons (by first | exact .rd .d | exact Vw_int (by first | rfl | assumption | omega | (simp; done) | (simp; omega)) | exact Vw_c (by first | rfl | (simp; done) | simp_all) | exact .any) (SlTo_cons (Vw_refe rfl (by first | rfl | simp | (simp; omega))) (SlTo_cons (by first | exact .rd .d | exact .any) SlTo_nil)))
    trivial
  · skip
    have hj2 : j = ss.length := by
      have : ¬ j < ss.length := by simpa using hc1
      omega
    subst hj2
    refine AC_exit ?_
    refine hK3 _ _ _ ?_
    refine AC_seq fun K8 hK8 => ?_
    refine AC_region ?_
    refine AL_ev (Ev_move) rfl ?_
    refine AL_ev (Ev_assign) rfl ?_
    refine AL_nil ?_
    refine hK8 _ _ _ ?_
    refine AC_ret ?_
    rw [fillS_done]
    refine reto_ok hX0 hdm (.tmp rfl rfl .nil) (.ref rfl rfl (by first | rfl | simp) (OwVs_strs (by first | rfl | simp)) (by simp)) rfl rfl

set_option maxHeartbeats 1000000 in
set_option maxRecDepth 4000 in
theorem c_toClauseS (ks : List Cl) : OCall Tryd.prog 18 [.sl LC (injCs ks)] (.sl LC (injCs ks)) := by
  refine OCall_of (n := 23) Tryd.func18 rfl rfl (Nat.le_of_ble_eq_true rfl) fun C0 hdm hT0 => ?_
  have hX0 := CExt.refl C0
  have hT := hT0
  refine AC_seq fun K1 hK1 => ?_
  refine AC_region ?_
  refine AL_ev (Ev_assign) rfl ?_
  refine AL_nil ?_
  refine hK1 _ _ _ ?_
  refine AC_seq fun K2 hK2 => ?_
  refine AC_region ?_
  refine AL_ev (Ev_move) rfl ?_
  first | refine AL_lim (x := (Operand.tmp 5)) rfl fun hl1 => ?_ | refine AL_limB (x := (Operand.tmp 5)) rfl rfl (by first | rfl | (simp; done) | (simp; omega)) fun hl1 => ?_ | have hl1 := True.intro
  try simp only [injs_length, ints_length, strs_length, injCs_length, List.length_map] at hl1
  first | refine AL_ev (Ev_len_injCs te22 rfl) rfl ?_ | refine AL_ev (Ev_len_sl te22 rfl) rfl ?_ | refine AL_ev (Ev_len_ref te22 rfl) rfl ?_ | refine AL_ev (Ev_len_nil te22 rfl) rfl ?_ | refine AL_ev (Ev_len_c te22 rfl) rfl ?_
  refine AL_makeSlice (Lay.st [(Lay.st [.one, .one, .one, .one]), (Lay.st [.one, .one, .one, .one]), .one]) te30 ts50 zo50 tb50 rfl (by simp only [lim]; first | omega | (simp; done) | (simp; omega)) (by first | omega | (simp; omega)) (by decide) _ rfl rfl ?_
  refine AL_ev (Ev_assign) rfl ?_
  refine AL_nil ?_
  refine hK2 _ _ _ ?_
  refine AC_seq fun K3 hK3 => ?_
  refine AC_seq fun K4 hK4 => ?_
  refine AC_region ?_
  refine AL_ev (Ev_assign) rfl ?_
  refine AL_nil ?_
  refine hK4 _ _ _ ?_
  refine AC_block ?_
  refine AC_loopX (List (List Value) × List Nat) (fun st => [(4, i64 st.1.length)]) (fun st => [some ⟨50, LC, st.1.map (rawV LC) ++ List.replicate (ks.length - st.1.length) (V.d zC)⟩]) (fun st => ks.length - st.1.length) (fun C st => st.1.length ≤ ks.length ∧ CExt C0 C ∧ HasL C0.w0.heap.size C LC st.1 (injCs (ks.take st.1.length)) st.2) [0, 3] ?_ ?_
  · skip
    exact enterX ([], []) [some 0] rfl rfl ⟨Nat.zero_le _, hX0, HasL.nil⟩ (BxTo_some rfl rfl rfl rfl (VwL_fill (css' := []) (by simp [zC, zT])) BxTo_nil) (SlTo_cons (by first | exact .rd .d | exact .ptr rfl | exact .ref rfl | exact .any | exact Vw_int (by omega)) (SlTo_cons (by first | exact .rd .d | exact .ptr rfl | exact .ref rfl | exact .any | exact Vw_int (by omega)) (SlTo_cons (by first | exact .rd .d | exact .ptr rfl | exact .ref rfl | exact .any | exact Vw_int (by omega)) SlTo_nil)))
  rintro CL st ⟨hj, hX, hL⟩
  have hT := hT0.ext hX
  refine AC_seq fun K5 hK5 => ?_
  refine AC_seq fun K6 hK6 => ?_
  refine AC_region ?_
  refine AL_ev (Ev_move) rfl ?_
  refine AL_ev (Ev_move) rfl ?_
  first | refine AL_lim (x := (Operand.tmp 9)) rfl fun hl2 => ?_ | refine AL_limB (x := (Operand.tmp 9)) rfl rfl (by first | rfl | (simp; done) | (simp; omega)) fun hl2 => ?_ | have hl2 := True.intro
  try simp only [injs_length, ints_length, strs_length, injCs_length, List.length_map] at hl2
  first | refine AL_ev (Ev_len_injCs te22 rfl) rfl ?_ | refine AL_ev (Ev_len_sl te22 rfl) rfl ?_ | refine AL_ev (Ev_len_ref te22 rfl) rfl ?_ | refine AL_ev (Ev_len_nil te22 rfl) rfl ?_ | refine AL_ev (Ev_len_c te22 rfl) rfl ?_
  refine AL_ev (Ev_lss rfl rfl) rfl ?_
  refine AL_nil ?_
  refine hK6 _ _ _ ?_
  refine AC_cond rfl (fun hc1 => ?_) (fun hc1 => ?_)
  · skip
    have hlt : st.1.length < ks.length := by simpa using hc1
    obtain ⟨u, hu⟩ : ∃ u, ks[st.1.length]? = some u := ⟨_, List.getElem?_eq_getElem hlt⟩
    have hu2 := injCs_get hu
    refine AC_skip ?_
    refine hK5 _ _ _ ?_
    refine AC_seq fun K7 hK7 => ?_
    refine AC_block ?_
    refine AC_region ?_
    refine AL_ev (Ev_move) rfl ?_
    refine AL_ev (Ev_move) rfl ?_
    refine AL_ev (Ev_move) rfl ?_
    refine AL_ev (Ev_move) rfl ?_
    first | refine AL_ev (Ev_ix_sl rfl rfl te22 ts64 (by omega) (by assumption)) rfl ?_ | refine AL_ev (Ev_ix_ref rfl rfl te22 ts64 (by omega) (by first | omega | (simp; omega))) rfl ?_
    first | refine AL_ev (Ev_load_ptr rfl rfl rfl rfl rfl rfl ts64 ta64 (by first | rfl | simp) (by intro h; cases h)) rfl ?_ | refine AL_ev (Ev_load_rp rfl rfl rfl ts64 ta64 (by first | rfl | simp) (by intro h; cases h)) rfl ?_
    refine AL_ocall0 hT LC rfl cl37 (c_toClause u) rfl rfl rfl rfl fun C1 cs1 K1 hg1 => ?_
    have hX1 := hX.trans hg1.ext
    have hT := hT.ext hg1.ext
    have hes := fill_get (l := LC) (z := zC) st.1 ks.length hlt
    first | refine AL_ev (Ev_ix_sl rfl rfl te30 ts50 (by omega) (by assumption)) rfl ?_ | refine AL_ev (Ev_ix_ref rfl rfl te30 ts50 (by omega) (by first | omega | (simp; omega))) rfl ?_
    first | refine AL_store rfl (nf rfl) rfl rfl rfl rfl rfl rfl (by first | rfl | simp [Lay.len, Lay.lens]) ts50 rfl rfl ?_ | refine AL_store rfl (nf rfl) rfl rfl rfl hes rfl rfl (by first | rfl | simp [Lay.len, Lay.lens]) ts50 rfl rfl ?_
    refine AL_nil ?_
    refine hK7 _ _ _ ?_
    refine AC_region ?_
    refine AL_ev (Ev_move) rfl ?_
    first | refine AL_ev (Ev_add rfl rfl _ (wrap_id (by first | omega | (simp; omega)) (by first | omega | (simp; omega)))) rfl ?_ | refine AL_ev (Ev_add rfl rfl _ rfl) rfl ?_
    refine AL_ev (Ev_assign) rfl ?_
    refine AL_nil ?_
    have hst2 : (st.1 ++ [cs1]).length = st.1.length + 1 := by simp
    refine closeX (st.1 ++ [cs1], st.2 ++ K1) [some 0] rfl rfl (by show ks.length - (st.1 ++ [cs1]).length < ks.length - st.1.length; omega) ⟨by show (st.1 ++ [cs1]).length ≤ _; omega, hX1, ?_⟩ (BxTo_some rfl rfl rfl rfl (VwL_fill (fill_set st.1 ks.length hlt cs1)) BxTo_nil) (SlTo_cons (Vw_int (by show _ = (((st.1 ++ [cs1]).length : Nat) : Int); rw [hst2]; omega)) (SlTo_cons (by first | exact .rd .d | exact .ptr rfl | exact .ref rfl | exact .any | exact Vw_int (by omega)) (SlTo_cons (by first | exact .rd .d | exact .ptr rfl | exact .ref rfl | exact .any | exact Vw_int (by omega)) SlTo_nil)))
    show HasL _ _ _ (st.1 ++ [cs1]) (injCs (ks.take (st.1 ++ [cs1]).length)) _
    rw [hst2, injCs_take_get hu]
    exact hL.snoc hg1.ext hg1.has hX.pres.size (injC_lenL u)
  · skip
    refine AC_exit ?_
    refine hK3 _ _ _ ?_
    refine AC_seq fun K8 hK8 => ?_
    refine AC_region ?_
    refine AL_ev (Ev_move) rfl ?_
    refine AL_ev (Ev_assign) rfl ?_
    refine AL_nil ?_
    refine hK8 _ _ _ ?_
    refine AC_ret ?_
    have hj2 : st.1.length = ks.length := by
      have : ¬ st.1.length < ks.length := by simpa using hc1
      omega
    rw [← hj2, fill_done]
    rw [hj2, List.take_length] at hL
    refine reto_ok hX hdm (.tmp rfl rfl .nil) (.ref rfl rfl (by first | omega | (simp; done) | (simp; omega)) (OwVs_raws hL (by first | omega | (simp; done) | (simp; omega))) (by simp)) rfl rfl

set_option maxHeartbeats 1000000 in
set_option maxRecDepth 4000 in
theorem c_toDb (d : Dbt) : OCall Tryd.prog 6 [injD d] (injD d) := by
  obtain ⟨cs, op⟩ := d
  refine OCall_of (n := 13) Tryd.func6 rfl rfl (Nat.le_of_ble_eq_true rfl) fun C0 hdm hT0 => ?_
  have hX0 := CExt.refl C0
  have hT := hT0
  refine AC_seq fun K1 hK1 => ?_
  refine AC_region ?_
  refine AL_box (Lay.st [.one, .one]) (nf rfl) rfl (by first | rfl | simp [Lay.len, Lay.lens]) _ rfl rfl ?_
  refine AL_alloc zo32 _ rfl rfl ?_
  refine AL_nil ?_
  refine hK1 _ _ _ ?_
  refine AC_seq fun K2 hK2 => ?_
  refine AC_region ?_
  refine AL_alloc zo32 _ rfl rfl ?_
  refine AL_nil ?_
  refine hK2 _ _ _ ?_
  refine AC_seq fun K3 hK3 => ?_
  refine AC_region ?_
  first | refine AL_ev (Ev_fa_ptr rfl fa25_0 rfl rfl) rfl ?_ | refine AL_ev (Ev_fa_rp rfl fa25_0 rfl rfl) rfl ?_
  first | refine AL_ev (Ev_load_ptr rfl rfl rfl rfl rfl rfl ts22 ta22 rfl (fun _ => rfl)) rfl ?_ | refine AL_ev (Ev_load_rp rfl rfl rfl ts22 ta22 rfl (fun _ => rfl)) rfl ?_
  refine AL_ocall0 hT .one rfl cl18 (c_toClauseS cs) rfl rfl rfl rfl fun C1 cs1 K1 hg1 => ?_
  have hX1 := hX0.trans hg1.ext
  have hT := hT.ext hg1.ext
  obtain ⟨A1, rfl⟩ := one_cell_of hg1.has
  first | refine AL_ev (Ev_fa_ptr rfl fa32_0 rfl rfl) rfl ?_ | refine AL_ev (Ev_fa_rp rfl fa32_0 rfl rfl) rfl ?_
  first | refine AL_store rfl (nf rfl) rfl rfl rfl rfl rfl rfl (by first | rfl | simp [Lay.len, Lay.lens]) ts30 rfl rfl ?_ | refine AL_store rfl (nf rfl) rfl rfl rfl hes rfl rfl (by first | rfl | simp [Lay.len, Lay.lens]) ts30 rfl rfl ?_
  refine AL_nil ?_
  refine hK3 _ _ _ ?_
  refine AC_seq fun K4 hK4 => ?_
  refine AC_region ?_
  first | refine AL_ev (Ev_fa_ptr rfl fa25_1 rfl rfl) rfl ?_ | refine AL_ev (Ev_fa_rp rfl fa25_1 rfl rfl) rfl ?_
  first | refine AL_ev (Ev_load_ptr rfl rfl rfl rfl rfl rfl ts23 ta23 rfl (fun _ => rfl)) rfl ?_ | refine AL_ev (Ev_load_rp rfl rfl rfl ts23 ta23 rfl (fun _ => rfl)) rfl ?_
  refine AL_ocall0 hT .one rfl cl19 (c_toStringS op) rfl rfl rfl rfl fun C2 cs2 K2 hg2 => ?_
  have hX2 := hX1.trans hg2.ext
  have hT := hT.ext hg2.ext
  obtain ⟨A2, rfl⟩ := one_cell_of hg2.has
  first | refine AL_ev (Ev_fa_ptr rfl fa32_1 rfl rfl) rfl ?_ | refine AL_ev (Ev_fa_rp rfl fa32_1 rfl rfl) rfl ?_
  first | refine AL_store rfl (nf rfl) rfl rfl rfl rfl rfl rfl (by first | rfl | simp [Lay.len, Lay.lens]) ts23 rfl rfl ?_ | refine AL_store rfl (nf rfl) rfl rfl rfl hes rfl rfl (by first | rfl | simp [Lay.len, Lay.lens]) ts23 rfl rfl ?_
  refine AL_nil ?_
  refine hK4 _ _ _ ?_
  refine AC_seq fun K5 hK5 => ?_
  refine AC_region ?_
  first | refine AL_ev (Ev_load_ptr rfl rfl rfl rfl rfl rfl ts32 ta32 (by first | rfl | simp) (by intro h; cases h)) rfl ?_ | refine AL_ev (Ev_load_rp rfl rfl rfl ts32 ta32 (by first | rfl | simp) (by intro h; cases h)) rfl ?_
  first | refine AL_store rfl (nf rfl) rfl rfl rfl rfl rfl rfl (by first | rfl | simp [Lay.len, Lay.lens]) ts32 rfl rfl ?_ | refine AL_store rfl (nf rfl) rfl rfl rfl hes rfl rfl (by first | rfl | simp [Lay.len, Lay.lens]) ts32 rfl rfl ?_
  refine AL_nil ?_
  refine hK5 _ _ _ ?_
  refine AC_ret ?_
  exact reto_ok hX2 hdm (.cell rfl rfl rfl rfl rfl rfl ts32 ta32 rfl (by intro h; cases h) .nil) (ow_D (d := ⟨cs, op⟩) hg1 hg2 hX0.pres.size) rfl rfl

end Go.Proofs.YtjhdkjacfclipaaDoor
