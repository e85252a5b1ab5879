/- Contracts of functions. -/
import Derived.Test.YtjhdkjacfclipaaDoorMt
import Derived.Test.YtjhdkjacfclipaaDoorOk
import Derived.Test.YtjhdkjacfclipaaDoorWn
import Derived.Test.YtjhdkjacfclipaaDoorEng27
import Derived.Test.YtjhdkjacfclipaaDoorLv
import Derived.Test.YtjhdkjacfclipaaDoorJb
import Derived.Test.YtjhdkjacfclipaaDoorDl
import Derived.Test.YtjhdkjacfclipaaDoorProg
import Derived.KernelRfl
import Derived.Test.YtjhdkjacfclipaaDoorCA
import Derived.Test.YtjhdkjacfclipaaDoorCB
import Derived.Test.YtjhdkjacfclipaaDoorCC
import Derived.Test.YtjhdkjacfclipaaDoorCF
import Derived.Test.YtjhdkjacfclipaaDoorCG
import Derived.Test.YtjhdkjacfclipaaDoorCH
import Derived.Test.YtjhdkjacfclipaaDoorCI
set_option linter.unusedVariables false
set_option linter.unusedSimpArgs false
namespace Go.Proofs.YtjhdkjacfclipaaDoor
open Go.Eng

theorem tz23 : tyZero Tryd.prog 23 = some (some (.slice none 0 0)) := by kernel_rfl
theorem tz27 : tyZero Tryd.prog 27 = some (some (.slice none 0 0)) := by kernel_rfl
theorem tz3 : tyZero Tryd.prog 3 = some (some (.int .i64 0)) := by kernel_rfl
theorem tz4 : tyZero Tryd.prog 4 = some (some (.bool false)) := by kernel_rfl
theorem cl10 : Callable Tryd.prog 10 := Callable_of Tryd.func10 (by kernel_rfl) (by kernel_rfl)
theorem cl11 : Callable Tryd.prog 11 := Callable_of Tryd.func11 (by kernel_rfl) (by kernel_rfl)
theorem cl12 : Callable Tryd.prog 12 := Callable_of Tryd.func12 (by kernel_rfl) (by kernel_rfl)
theorem cl15 : Callable Tryd.prog 15 := Callable_of Tryd.func15 (by kernel_rfl) (by kernel_rfl)
theorem cl16 : Callable Tryd.prog 16 := Callable_of Tryd.func16 (by kernel_rfl) (by kernel_rfl)
theorem cl17 : Callable Tryd.prog 17 := Callable_of Tryd.func17 (by kernel_rfl) (by kernel_rfl)
theorem cl20 : Callable Tryd.prog 20 := Callable_of Tryd.func20 (by kernel_rfl) (by kernel_rfl)
theorem cl21 : Callable Tryd.prog 21 := Callable_of Tryd.func21 (by kernel_rfl) (by kernel_rfl)
theorem cl25 : Callable Tryd.prog 25 := Callable_of Tryd.func25 (by kernel_rfl) (by kernel_rfl)
theorem cl26 : Callable Tryd.prog 26 := Callable_of Tryd.func26 (by kernel_rfl) (by kernel_rfl)
theorem cl34 : Callable Tryd.prog 34 := Callable_of Tryd.func34 (by kernel_rfl) (by kernel_rfl)
theorem cl35 : Callable Tryd.prog 35 := Callable_of Tryd.func35 (by kernel_rfl) (by kernel_rfl)
theorem cl36 : Callable Tryd.prog 36 := Callable_of Tryd.func36 (by kernel_rfl) (by kernel_rfl)
theorem cl4 : Callable Tryd.prog 4 := Callable_of Tryd.func4 (by kernel_rfl) (by kernel_rfl)
theorem cl5 : Callable Tryd.prog 5 := Callable_of Tryd.func5 (by kernel_rfl) (by kernel_rfl)
theorem cl52 : Callable Tryd.prog 52 := Callable_of Tryd.func52 (by kernel_rfl) (by kernel_rfl)
theorem cl6 : Callable Tryd.prog 6 := Callable_of Tryd.func6 (by kernel_rfl) (by kernel_rfl)
theorem cl7 : Callable Tryd.prog 7 := Callable_of Tryd.func7 (by kernel_rfl) (by kernel_rfl)
theorem cl8 : Callable Tryd.prog 8 := Callable_of Tryd.func8 (by kernel_rfl) (by kernel_rfl)
theorem cl9 : Callable Tryd.prog 9 := Callable_of Tryd.func9 (by kernel_rfl) (by kernel_rfl)
theorem ta25 : tyAgg Tryd.prog 25 = some true := by kernel_rfl
theorem ta27 : tyAgg Tryd.prog 27 = some false := by kernel_rfl
theorem ta4 : tyAgg Tryd.prog 4 = some false := by kernel_rfl
theorem tb3 : tyBytes Tryd.prog 3 = some 8 := by kernel_rfl
theorem tbool4 : tyBool Tryd.prog 4 = true := by kernel_rfl
theorem ts25 : tySize Tryd.prog 25 = some 2 := by kernel_rfl
theorem ts27 : tySize Tryd.prog 27 = some 1 := by kernel_rfl
theorem ts4 : tySize Tryd.prog 4 = some 1 := by kernel_rfl
theorem zo23 : ZeroOf Tryd.prog 23 .one (.d (.c (.slice none 0 0))) := ⟨_, tz23, rfl, fun _ _ _ => VC_cells rfl⟩
theorem zo27 : ZeroOf Tryd.prog 27 .one (.d (.c (.slice none 0 0))) := ⟨_, tz27, rfl, fun _ _ _ => VC_cells rfl⟩
theorem zo3 : ZeroOf Tryd.prog 3 .one (.d (.c (.int .i64 0))) := ⟨_, tz3, rfl, fun _ _ _ => VC_cells rfl⟩
theorem zo4 : ZeroOf Tryd.prog 4 .one (.d (.c (.bool false))) := ⟨_, tz4, rfl, fun _ _ _ => VC_cells rfl⟩

set_option maxHeartbeats 1000000 in
set_option maxRecDepth 4000 in
theorem c_l23At (xs : List ByteArray) (s : ByteArray) : PCall Tryd.prog 17 [.sl .one (strs xs), .c (.string s)] (· = [.c (.int .i64 (idxS xs s 0))]) := by
  refine PCall_of (n := 19) Tryd.func17 rfl rfl (Nat.le_of_ble_eq_true rfl) fun C hdm hT0 => ?_
  have hT := hT0
  refine AC_seq fun K1 hK1 => ?_
  refine AC_region ?_
  refine AL_ev (Ev_assign) rfl ?_
  refine AL_nil ?_
  refine hK1 _ _ _ ?_
  refine AC_seq fun K2 hK2 => ?_
  refine AC_seq fun K3 hK3 => ?_
  refine AC_region ?_
  refine AL_ev (Ev_assign) rfl ?_
  refine AL_nil ?_
  refine hK3 _ _ _ ?_
  refine AC_block ?_
  refine AC_loopS [0, 1] (Nat) (fun j => [(5, i64 j)]) (fun j => []) (fun st => xs.length - st) (fun j => j ≤ xs.length ∧ idxS xs s 0 = idxS (xs.drop j) s j) (0) ?_ ?_ ?_
  · skip
    exact enterS [] rfl rfl BxTo_nil (SlTo_cons (by first | exact .rd .d | exact Vw_int (by first | rfl | assumption | omega | (simp; done) | (simp; omega)) | exact Vw_c (by first | rfl | (simp; done) | simp_all) | exact .any) (SlTo_cons (by first | exact .rd .d | exact .any) (SlTo_cons (by first | exact .rd .d | exact .any) SlTo_nil)))
  · skip
    exact ⟨Nat.zero_le _, by simp⟩
  rintro j ⟨hj, hI⟩
  show AC _ _ _ _ _ (FS [0, 1] _ [(5, i64 j)]) []
  refine AC_seq fun K4 hK4 => ?_
  refine AC_seq fun K5 hK5 => ?_
  refine AC_region ?_
  refine AL_ev (Ev_move) rfl ?_
  refine AL_ev (Ev_move) rfl ?_
  first | refine AL_lim (x := (Operand.tmp 7)) rfl fun hl1 => ?_ | refine AL_limB (x := (Operand.tmp 7)) rfl rfl (by first | rfl | (simp; done) | (simp; omega)) fun hl1 => ?_ | have hl1 := True.intro
  try simp only [injs_length, ints_length, strs_length, injCs_length, List.length_map] at hl1
  first | refine AL_ev (Ev_len_strs te23 rfl) rfl ?_ | refine AL_ev (Ev_len_sl te23 rfl) rfl ?_ | refine AL_ev (Ev_len_ref te23 rfl) rfl ?_ | refine AL_ev (Ev_len_nil te23 rfl) rfl ?_ | refine AL_ev (Ev_len_c te23 rfl) rfl ?_
  refine AL_ev (Ev_lss rfl rfl) rfl ?_
  refine AL_nil ?_
  refine hK5 _ _ _ ?_
  refine AC_cond rfl (fun hc1 => ?_) (fun hc1 => ?_)
  · skip
    have hlt : j < xs.length := by simpa using hc1
    obtain ⟨u, hu⟩ : ∃ x, xs[j]? = some x := ⟨_, List.getElem?_eq_getElem hlt⟩
    have hu2 := strs_get hu
    have hdr := drop_get hu
    refine AC_skip ?_
    refine hK4 _ _ _ ?_
    refine AC_seq fun K6 hK6 => ?_
    refine AC_block ?_
    refine AC_seq fun K7 hK7 => ?_
    refine AC_region ?_
    refine AL_ev (Ev_move) rfl ?_
    refine AL_ev (Ev_move) rfl ?_
    first | refine AL_ev (Ev_ix_sl rfl rfl te23 ts9 (by omega) (by assumption)) rfl ?_ | refine AL_ev (Ev_ix_ref rfl rfl te23 ts9 (by omega) (by first | omega | (simp; omega))) rfl ?_
    first | refine AL_ev (Ev_load_ptr rfl rfl rfl rfl rfl rfl ts9 ta9 rfl (fun _ => rfl)) rfl ?_ | refine AL_ev (Ev_load_rp rfl rfl rfl ts9 ta9 rfl (fun _ => rfl)) rfl ?_
    refine AL_ev (Ev_move) rfl ?_
    refine AL_ev (Ev_seql rfl rfl) rfl ?_
    refine AL_nil ?_
    refine hK7 _ _ _ ?_
    refine AC_cond rfl (fun hc2 => ?_) (fun hc2 => ?_)
    · skip
      refine AC_seq fun K8 hK8 => ?_
      refine AC_region ?_
      refine AL_ev (Ev_move) rfl ?_
      refine AL_ev (Ev_assign) rfl ?_
      refine AL_nil ?_
      refine hK8 _ _ _ ?_
      refine AC_ret ?_
      refine ret_ok hdm (.tmp rfl rfl .nil) (.cons .d .nil) ?_
      try rw [hI]
      try rw [hdr]
      try simp_all [List.length_pos_iff, idxS]
      try omega
    · skip
      refine AC_skip ?_
      refine hK6 _ _ _ ?_
      refine AC_region ?_
      refine AL_ev (Ev_move) rfl ?_
      first | refine AL_ev (Ev_add rfl rfl _ (wrap_id (by first | omega | (simp; omega)) (by first | omega | (simp; omega)))) rfl ?_ | refine AL_ev (Ev_add rfl rfl _ rfl) rfl ?_
      refine AL_ev (Ev_assign) rfl ?_
      refine AL_nil ?_
      refine closeS (j + 1) [] rfl rfl (by show xs.length - (j + 1) < xs.length - j; omega) ⟨hlt, ?_⟩ BxTo_nil (SlTo_cons (by first | exact .rd .d | exact Vw_int (by first | rfl | assumption | omega | (simp; done) | (simp; omega)) | exact Vw_c (by first | rfl | (simp; done) | simp_all) | exact .any) (SlTo_cons (by first | exact .rd .d | exact .any) (SlTo_cons (by first | exact .rd .d | exact .any) SlTo_nil)))
      rw [hI]
      try rw [hdr]
      try simp_all [idxS]
      try omega
  · skip
    have hj2 : j = xs.length := by
      have : ¬ j < xs.length := by simpa using hc1
      omega
    subst hj2
    rw [List.drop_length] at hI
    refine AC_exit ?_
    refine hK2 _ _ _ ?_
    refine AC_seq fun K9 hK9 => ?_
    refine AC_region ?_
    refine AL_ev (Ev_assign) rfl ?_
    refine AL_nil ?_
    refine hK9 _ _ _ ?_
    refine AC_ret ?_
    refine ret_ok hdm (.tmp rfl rfl .nil) (.cons .d .nil) ?_
    try rw [hI]
    try rw [hdr]
    try simp_all [List.length_pos_iff, idxS]
    try omega

set_option maxHeartbeats 1000000 in
set_option maxRecDepth 4000 in
theorem c_l23Walk (t : T) : ∀ (neg want : Bool) (out : List ByteArray), bulk t ≤ 1099511627776 → out.length + sz t ≤ 1099511627776 → PCall Tryd.prog 36 [inj t, .c (.bool neg), .c (.bool want), .sl .one (strs out)] (· = [.sl .one (strs (eachF (stepW want) t neg out))]) := by
  induction t using T.ind with | h k s m ks ih => ?_
  intro neg want out hb hl
  refine PCall_of (n := 85) Tryd.func36 rfl rfl (Nat.le_of_ble_eq_true rfl) fun C hdm hT0 => ?_
  have hT := hT0
  refine AC_seq fun K1 hK1 => ?_
  refine AC_region ?_
  refine AL_box (Lay.st [.one, .one, .one, .one]) (nf rfl) rfl (by first | rfl | simp [Lay.len, Lay.lens]) _ rfl rfl ?_
  refine AL_ev (Ev_assign) rfl ?_
  refine AL_nil ?_
  refine hK1 _ _ _ ?_
  refine AC_seq fun K2 hK2 => ?_
  refine AC_region ?_
  first | refine AL_ev (Ev_load_ptr rfl rfl rfl rfl rfl rfl ts48 ta48 (by first | rfl | simp) (by intro h; cases h)) rfl ?_ | refine AL_ev (Ev_load_rp rfl rfl rfl ts48 ta48 (by first | rfl | simp) (by intro h; cases h)) rfl ?_
  refine AL_fcall0 hT rfl cl33 (c_specPredOf _ hb) rfl rfl ?_
  refine AL_ev (Ev_assign) rfl ?_
  refine AL_nil ?_
  refine hK2 _ _ _ ?_
  refine AC_seq fun K3 hK3 => ?_
  refine AC_seq fun K4 hK4 => ?_
  refine AC_region ?_
  refine AL_ev (Ev_move) rfl ?_
  refine AL_nil ?_
  refine hK4 _ _ _ ?_
  refine AC_block ?_
  refine AC_seq fun K5 hK5 => ?_
  refine AC_seq fun K6 hK6 => ?_
  refine AC_region ?_
  refine AL_ev (Ev_seql rfl rfl) rfl ?_
  refine AL_ev (Ev_assign) rfl ?_
  refine AL_nil ?_
  refine hK6 _ _ _ ?_
  refine AC_cond rfl (fun hc1 => ?_) (fun hc1 => ?_)
  · skip
    have hp0 := of_decide_eq_true hc1
    obtain ⟨x, y, rfl⟩ := len2 (show ks.length = 2 from predS_kids [44] 2 (by omega) rfl hp0)
    have hp : predS (.mk k s m [x, y]) = cComma ∨ predS (.mk k s m [x, y]) = cSemi ∨ predS (.mk k s m [x, y]) = cArrow := .inl hp0
    have hu0 : (injs [x, y])[(0 : Int).toNat]? = some (inj x) := rfl
    have hu1 : (injs [x, y])[(1 : Int).toNat]? = some (inj y) := rfl
    simp only [sz, szs] at hl
    have hle := eachF_le (μ := fun a : List ByteArray => (a.length : Int)) (stepW_le want) x neg out
    refine AC_skip ?_
    refine hK5 _ _ _ ?_
    first | refine AC_cond_t rfl ?_ | refine AC_cond_t (congrArg bl hc1) ?_
    refine AC_seq fun K7 hK7 => ?_
    refine AC_region ?_
    first | refine AL_ev (Ev_fa_ptr rfl fa48_3 rfl rfl) rfl ?_ | refine AL_ev (Ev_fa_rp rfl fa48_3 rfl rfl) rfl ?_
    first | refine AL_ev (Ev_load_ptr rfl rfl rfl rfl rfl rfl ts46 ta46 rfl (fun _ => rfl)) rfl ?_ | refine AL_ev (Ev_load_rp rfl rfl rfl ts46 ta46 rfl (fun _ => rfl)) rfl ?_
    first | refine AL_ev (Ev_ix_sl rfl rfl te46 ts48 (by omega) (by assumption)) rfl ?_ | refine AL_ev (Ev_ix_ref rfl rfl te46 ts48 (by omega) (by first | omega | (simp; omega))) rfl ?_
    first | refine AL_ev (Ev_load_ptr rfl rfl rfl rfl rfl rfl ts48 ta48 (by first | rfl | simp) (by intro h; cases h)) rfl ?_ | refine AL_ev (Ev_load_rp rfl rfl rfl ts48 ta48 (by first | rfl | simp) (by intro h; cases h)) rfl ?_
    refine AL_ev (Ev_move) rfl ?_
    refine AL_ev (Ev_move) rfl ?_
    refine AL_ev (Ev_move) rfl ?_
    refine AL_fcall0 hT rfl cl36 (ih x (by simp) neg want (out) (bulk_mem hb x (by simp)) (by omega)) rfl rfl ?_
    refine AL_ev (Ev_assign) rfl ?_
    refine AL_nil ?_
    refine hK7 _ _ _ ?_
    refine AC_seq fun K8 hK8 => ?_
    refine AC_region ?_
    first | refine AL_ev (Ev_fa_ptr rfl fa48_3 rfl rfl) rfl ?_ | refine AL_ev (Ev_fa_rp rfl fa48_3 rfl rfl) rfl ?_
    first | refine AL_ev (Ev_load_ptr rfl rfl rfl rfl rfl rfl ts46 ta46 rfl (fun _ => rfl)) rfl ?_ | refine AL_ev (Ev_load_rp rfl rfl rfl ts46 ta46 rfl (fun _ => rfl)) rfl ?_
    first | refine AL_ev (Ev_ix_sl rfl rfl te46 ts48 (by omega) (by assumption)) rfl ?_ | refine AL_ev (Ev_ix_ref rfl rfl te46 ts48 (by omega) (by first | omega | (simp; omega))) rfl ?_
    first | refine AL_ev (Ev_load_ptr rfl rfl rfl rfl rfl rfl ts48 ta48 (by first | rfl | simp) (by intro h; cases h)) rfl ?_ | refine AL_ev (Ev_load_rp rfl rfl rfl ts48 ta48 (by first | rfl | simp) (by intro h; cases h)) rfl ?_
    refine AL_ev (Ev_move) rfl ?_
    refine AL_ev (Ev_move) rfl ?_
    refine AL_ev (Ev_move) rfl ?_
    refine AL_fcall0 hT rfl cl36 (ih y (by simp) neg want (eachF (stepW want) x neg out) (bulk_mem hb y (by simp)) (by omega)) rfl rfl ?_
    refine AL_ev (Ev_assign) rfl ?_
    refine AL_nil ?_
    refine hK8 _ _ _ ?_
    refine AC_ret ?_
    refine ret_ok hdm (.tmp rfl rfl .nil) (.cons .d .nil) ?_
    exact congrArg (fun l => [D.sl .one (strs l)]) (eachF_two hp).symm
  · skip
    refine AC_seq fun K9 hK9 => ?_
    refine AC_region ?_
    refine AL_ev (Ev_seql rfl rfl) rfl ?_
    refine AL_ev (Ev_assign) rfl ?_
    refine AL_nil ?_
    refine hK9 _ _ _ ?_
    refine AC_cond rfl (fun hc2 => ?_) (fun hc2 => ?_)
    · skip
      have hp0 := of_decide_eq_true hc2
      obtain ⟨x, y, rfl⟩ := len2 (show ks.length = 2 from predS_kids [59] 2 (by omega) rfl hp0)
      have hp : predS (.mk k s m [x, y]) = cComma ∨ predS (.mk k s m [x, y]) = cSemi ∨ predS (.mk k s m [x, y]) = cArrow := .inr (.inl hp0)
      have hu0 : (injs [x, y])[(0 : Int).toNat]? = some (inj x) := rfl
      have hu1 : (injs [x, y])[(1 : Int).toNat]? = some (inj y) := rfl
      simp only [sz, szs] at hl
      have hle := eachF_le (μ := fun a : List ByteArray => (a.length : Int)) (stepW_le want) x neg out
      refine AC_skip ?_
      refine hK5 _ _ _ ?_
      first | refine AC_cond_t rfl ?_ | refine AC_cond_t (congrArg bl hc2) ?_
      refine AC_seq fun K10 hK10 => ?_
      refine AC_region ?_
      first | refine AL_ev (Ev_fa_ptr rfl fa48_3 rfl rfl) rfl ?_ | refine AL_ev (Ev_fa_rp rfl fa48_3 rfl rfl) rfl ?_
      first | refine AL_ev (Ev_load_ptr rfl rfl rfl rfl rfl rfl ts46 ta46 rfl (fun _ => rfl)) rfl ?_ | refine AL_ev (Ev_load_rp rfl rfl rfl ts46 ta46 rfl (fun _ => rfl)) rfl ?_
      first | refine AL_ev (Ev_ix_sl rfl rfl te46 ts48 (by omega) (by assumption)) rfl ?_ | refine AL_ev (Ev_ix_ref rfl rfl te46 ts48 (by omega) (by first | omega | (simp; omega))) rfl ?_
      first | refine AL_ev (Ev_load_ptr rfl rfl rfl rfl rfl rfl ts48 ta48 (by first | rfl | simp) (by intro h; cases h)) rfl ?_ | refine AL_ev (Ev_load_rp rfl rfl rfl ts48 ta48 (by first | rfl | simp) (by intro h; cases h)) rfl ?_
      refine AL_ev (Ev_move) rfl ?_
      refine AL_ev (Ev_move) rfl ?_
      refine AL_ev (Ev_move) rfl ?_
      refine AL_fcall0 hT rfl cl36 (ih x (by simp) neg want (out) (bulk_mem hb x (by simp)) (by omega)) rfl rfl ?_
      refine AL_ev (Ev_assign) rfl ?_
      refine AL_nil ?_
      refine hK10 _ _ _ ?_
      refine AC_seq fun K11 hK11 => ?_
      refine AC_region ?_
      first | refine AL_ev (Ev_fa_ptr rfl fa48_3 rfl rfl) rfl ?_ | refine AL_ev (Ev_fa_rp rfl fa48_3 rfl rfl) rfl ?_
      first | refine AL_ev (Ev_load_ptr rfl rfl rfl rfl rfl rfl ts46 ta46 rfl (fun _ => rfl)) rfl ?_ | refine AL_ev (Ev_load_rp rfl rfl rfl ts46 ta46 rfl (fun _ => rfl)) rfl ?_
      first | refine AL_ev (Ev_ix_sl rfl rfl te46 ts48 (by omega) (by assumption)) rfl ?_ | refine AL_ev (Ev_ix_ref rfl rfl te46 ts48 (by omega) (by first | omega | (simp; omega))) rfl ?_
      first | refine AL_ev (Ev_load_ptr rfl rfl rfl rfl rfl rfl ts48 ta48 (by first | rfl | simp) (by intro h; cases h)) rfl ?_ | refine AL_ev (Ev_load_rp rfl rfl rfl ts48 ta48 (by first | rfl | simp) (by intro h; cases h)) rfl ?_
      refine AL_ev (Ev_move) rfl ?_
      refine AL_ev (Ev_move) rfl ?_
      refine AL_ev (Ev_move) rfl ?_
      refine AL_fcall0 hT rfl cl36 (ih y (by simp) neg want (eachF (stepW want) x neg out) (bulk_mem hb y (by simp)) (by omega)) rfl rfl ?_
      refine AL_ev (Ev_assign) rfl ?_
      refine AL_nil ?_
      refine hK11 _ _ _ ?_
      refine AC_ret ?_
      refine ret_ok hdm (.tmp rfl rfl .nil) (.cons .d .nil) ?_
      exact congrArg (fun l => [D.sl .one (strs l)]) (eachF_two hp).symm
    · skip
      refine AC_region ?_
      refine AL_ev (Ev_seql rfl rfl) rfl ?_
      refine AL_ev (Ev_assign) rfl ?_
      refine AL_nil ?_
      refine hK5 _ _ _ ?_
      refine AC_cond rfl (fun hc3 => ?_) (fun hc3 => ?_)
      · skip
        have hp0 := of_decide_eq_true hc3
        obtain ⟨x, y, rfl⟩ := len2 (show ks.length = 2 from predS_kids [45, 62] 2 (by omega) rfl hp0)
        have hp : predS (.mk k s m [x, y]) = cComma ∨ predS (.mk k s m [x, y]) = cSemi ∨ predS (.mk k s m [x, y]) = cArrow := .inr (.inr hp0)
        have hu0 : (injs [x, y])[(0 : Int).toNat]? = some (inj x) := rfl
        have hu1 : (injs [x, y])[(1 : Int).toNat]? = some (inj y) := rfl
        simp only [sz, szs] at hl
        have hle := eachF_le (μ := fun a : List ByteArray => (a.length : Int)) (stepW_le want) x neg out
        refine AC_seq fun K12 hK12 => ?_
        refine AC_region ?_
        first | refine AL_ev (Ev_fa_ptr rfl fa48_3 rfl rfl) rfl ?_ | refine AL_ev (Ev_fa_rp rfl fa48_3 rfl rfl) rfl ?_
        first | refine AL_ev (Ev_load_ptr rfl rfl rfl rfl rfl rfl ts46 ta46 rfl (fun _ => rfl)) rfl ?_ | refine AL_ev (Ev_load_rp rfl rfl rfl ts46 ta46 rfl (fun _ => rfl)) rfl ?_
        first | refine AL_ev (Ev_ix_sl rfl rfl te46 ts48 (by omega) (by assumption)) rfl ?_ | refine AL_ev (Ev_ix_ref rfl rfl te46 ts48 (by omega) (by first | omega | (simp; omega))) rfl ?_
        first | refine AL_ev (Ev_load_ptr rfl rfl rfl rfl rfl rfl ts48 ta48 (by first | rfl | simp) (by intro h; cases h)) rfl ?_ | refine AL_ev (Ev_load_rp rfl rfl rfl ts48 ta48 (by first | rfl | simp) (by intro h; cases h)) rfl ?_
        refine AL_ev (Ev_move) rfl ?_
        refine AL_ev (Ev_move) rfl ?_
        refine AL_ev (Ev_move) rfl ?_
        refine AL_fcall0 hT rfl cl36 (ih x (by simp) neg want (out) (bulk_mem hb x (by simp)) (by omega)) rfl rfl ?_
        refine AL_ev (Ev_assign) rfl ?_
        refine AL_nil ?_
        refine hK12 _ _ _ ?_
        refine AC_seq fun K13 hK13 => ?_
        refine AC_region ?_
        first | refine AL_ev (Ev_fa_ptr rfl fa48_3 rfl rfl) rfl ?_ | refine AL_ev (Ev_fa_rp rfl fa48_3 rfl rfl) rfl ?_
        first | refine AL_ev (Ev_load_ptr rfl rfl rfl rfl rfl rfl ts46 ta46 rfl (fun _ => rfl)) rfl ?_ | refine AL_ev (Ev_load_rp rfl rfl rfl ts46 ta46 rfl (fun _ => rfl)) rfl ?_
        first | refine AL_ev (Ev_ix_sl rfl rfl te46 ts48 (by omega) (by assumption)) rfl ?_ | refine AL_ev (Ev_ix_ref rfl rfl te46 ts48 (by omega) (by first | omega | (simp; omega))) rfl ?_
        first | refine AL_ev (Ev_load_ptr rfl rfl rfl rfl rfl rfl ts48 ta48 (by first | rfl | simp) (by intro h; cases h)) rfl ?_ | refine AL_ev (Ev_load_rp rfl rfl rfl ts48 ta48 (by first | rfl | simp) (by intro h; cases h)) rfl ?_
        refine AL_ev (Ev_move) rfl ?_
        refine AL_ev (Ev_move) rfl ?_
        refine AL_ev (Ev_move) rfl ?_
        refine AL_fcall0 hT rfl cl36 (ih y (by simp) neg want (eachF (stepW want) x neg out) (bulk_mem hb y (by simp)) (by omega)) rfl rfl ?_
        refine AL_ev (Ev_assign) rfl ?_
        refine AL_nil ?_
        refine hK13 _ _ _ ?_
        refine AC_ret ?_
        refine ret_ok hdm (.tmp rfl rfl .nil) (.cons .d .nil) ?_
        exact congrArg (fun l => [D.sl .one (strs l)]) (eachF_two hp).symm
      · skip
        refine AC_seq fun K14 hK14 => ?_
        refine AC_region ?_
        refine AL_ev (Ev_seql rfl rfl) rfl ?_
        refine AL_ev (Ev_assign) rfl ?_
        refine AL_nil ?_
        refine hK14 _ _ _ ?_
        refine AC_cond rfl (fun hc4 => ?_) (fun hc4 => ?_)
        · skip
          have hp := of_decide_eq_true hc4
          obtain ⟨x, rfl⟩ := len1 (show ks.length = 1 from predS_kids [92, 43] 1 (by omega) rfl hp)
          have hu0 : (injs [x])[(0 : Int).toNat]? = some (inj x) := rfl
          simp only [sz, szs] at hl
          refine AC_seq fun K15 hK15 => ?_
          refine AC_region ?_
          first | refine AL_ev (Ev_fa_ptr rfl fa48_3 rfl rfl) rfl ?_ | refine AL_ev (Ev_fa_rp rfl fa48_3 rfl rfl) rfl ?_
          first | refine AL_ev (Ev_load_ptr rfl rfl rfl rfl rfl rfl ts46 ta46 rfl (fun _ => rfl)) rfl ?_ | refine AL_ev (Ev_load_rp rfl rfl rfl ts46 ta46 rfl (fun _ => rfl)) rfl ?_
          first | refine AL_ev (Ev_ix_sl rfl rfl te46 ts48 (by omega) (by assumption)) rfl ?_ | refine AL_ev (Ev_ix_ref rfl rfl te46 ts48 (by omega) (by first | omega | (simp; omega))) rfl ?_
          first | refine AL_ev (Ev_load_ptr rfl rfl rfl rfl rfl rfl ts48 ta48 (by first | rfl | simp) (by intro h; cases h)) rfl ?_ | refine AL_ev (Ev_load_rp rfl rfl rfl ts48 ta48 (by first | rfl | simp) (by intro h; cases h)) rfl ?_
          refine AL_ev (Ev_move) rfl ?_
          refine AL_ev (Ev_move) rfl ?_
          refine AL_fcall0 hT rfl cl36 (ih x (by simp) true want (out) (bulk_mem hb x (by simp)) (by omega)) rfl rfl ?_
          refine AL_ev (Ev_assign) rfl ?_
          refine AL_nil ?_
          refine hK15 _ _ _ ?_
          refine AC_ret ?_
          refine ret_ok hdm (.tmp rfl rfl .nil) (.cons .d .nil) ?_
          exact congrArg (fun l => [D.sl .one (strs l)]) (eachF_not hp).symm
        · skip
          refine AC_seq fun K16 hK16 => ?_
          refine AC_region ?_
          refine AL_ev (Ev_seql rfl rfl) rfl ?_
          refine AL_ev (Ev_assign) rfl ?_
          refine AL_nil ?_
          refine hK16 _ _ _ ?_
          refine AC_cond rfl (fun hc5 => ?_) (fun hc5 => ?_)
          · skip
            have hp := of_decide_eq_true hc5
            obtain ⟨x, rfl⟩ := len1 (show ks.length = 1 from predS_kids [99, 97, 108, 108] 1 (by omega) rfl hp)
            have hu0 : (injs [x])[(0 : Int).toNat]? = some (inj x) := rfl
            simp only [sz, szs] at hl
            refine AC_seq fun K17 hK17 => ?_
            refine AC_region ?_
            first | refine AL_ev (Ev_fa_ptr rfl fa48_3 rfl rfl) rfl ?_ | refine AL_ev (Ev_fa_rp rfl fa48_3 rfl rfl) rfl ?_
            first | refine AL_ev (Ev_load_ptr rfl rfl rfl rfl rfl rfl ts46 ta46 rfl (fun _ => rfl)) rfl ?_ | refine AL_ev (Ev_load_rp rfl rfl rfl ts46 ta46 rfl (fun _ => rfl)) rfl ?_
            first | refine AL_ev (Ev_ix_sl rfl rfl te46 ts48 (by omega) (by assumption)) rfl ?_ | refine AL_ev (Ev_ix_ref rfl rfl te46 ts48 (by omega) (by first | omega | (simp; omega))) rfl ?_
            first | refine AL_ev (Ev_load_ptr rfl rfl rfl rfl rfl rfl ts48 ta48 (by first | rfl | simp) (by intro h; cases h)) rfl ?_ | refine AL_ev (Ev_load_rp rfl rfl rfl ts48 ta48 (by first | rfl | simp) (by intro h; cases h)) rfl ?_
            refine AL_ev (Ev_move) rfl ?_
            refine AL_ev (Ev_move) rfl ?_
            refine AL_ev (Ev_move) rfl ?_
            refine AL_fcall0 hT rfl cl36 (ih x (by simp) neg want (out) (bulk_mem hb x (by simp)) (by omega)) rfl rfl ?_
            refine AL_ev (Ev_assign) rfl ?_
            refine AL_nil ?_
            refine hK17 _ _ _ ?_
            refine AC_ret ?_
            refine ret_ok hdm (.tmp rfl rfl .nil) (.cons .d .nil) ?_
            exact congrArg (fun l => [D.sl .one (strs l)]) (eachF_call hp).symm
          · skip
            refine AC_seq fun K18 hK18 => ?_
            refine AC_region ?_
            refine AL_ev (Ev_seql rfl rfl) rfl ?_
            refine AL_ev (Ev_assign) rfl ?_
            refine AL_nil ?_
            refine hK18 _ _ _ ?_
            refine AC_cond rfl (fun hc6 => ?_) (fun hc6 => ?_)
            · skip
              have hp := of_decide_eq_true hc6
              obtain ⟨x, y, z, rfl⟩ := len3 (show ks.length = 3 from predS_kids [99, 97, 116, 99, 104] 3 (by omega) rfl hp)
              have hu0 : (injs [x, y, z])[(0 : Int).toNat]? = some (inj x) := rfl
              have hu1 : (injs [x, y, z])[(2 : Int).toNat]? = some (inj z) := rfl
              simp only [sz, szs] at hl
              have hle := eachF_le (μ := fun a : List ByteArray => (a.length : Int)) (stepW_le want) x neg out
              refine AC_seq fun K19 hK19 => ?_
              refine AC_region ?_
              first | refine AL_ev (Ev_fa_ptr rfl fa48_3 rfl rfl) rfl ?_ | refine AL_ev (Ev_fa_rp rfl fa48_3 rfl rfl) rfl ?_
              first | refine AL_ev (Ev_load_ptr rfl rfl rfl rfl rfl rfl ts46 ta46 rfl (fun _ => rfl)) rfl ?_ | refine AL_ev (Ev_load_rp rfl rfl rfl ts46 ta46 rfl (fun _ => rfl)) rfl ?_
              first | refine AL_ev (Ev_ix_sl rfl rfl te46 ts48 (by omega) (by assumption)) rfl ?_ | refine AL_ev (Ev_ix_ref rfl rfl te46 ts48 (by omega) (by first | omega | (simp; omega))) rfl ?_
              first | refine AL_ev (Ev_load_ptr rfl rfl rfl rfl rfl rfl ts48 ta48 (by first | rfl | simp) (by intro h; cases h)) rfl ?_ | refine AL_ev (Ev_load_rp rfl rfl rfl ts48 ta48 (by first | rfl | simp) (by intro h; cases h)) rfl ?_
              refine AL_ev (Ev_move) rfl ?_
              refine AL_ev (Ev_move) rfl ?_
              refine AL_ev (Ev_move) rfl ?_
              refine AL_fcall0 hT rfl cl36 (ih x (by simp) neg want (out) (bulk_mem hb x (by simp)) (by omega)) rfl rfl ?_
              refine AL_ev (Ev_assign) rfl ?_
              refine AL_nil ?_
              refine hK19 _ _ _ ?_
              refine AC_seq fun K20 hK20 => ?_
              refine AC_region ?_
              first | refine AL_ev (Ev_fa_ptr rfl fa48_3 rfl rfl) rfl ?_ | refine AL_ev (Ev_fa_rp rfl fa48_3 rfl rfl) rfl ?_
              first | refine AL_ev (Ev_load_ptr rfl rfl rfl rfl rfl rfl ts46 ta46 rfl (fun _ => rfl)) rfl ?_ | refine AL_ev (Ev_load_rp rfl rfl rfl ts46 ta46 rfl (fun _ => rfl)) rfl ?_
              first | refine AL_ev (Ev_ix_sl rfl rfl te46 ts48 (by omega) (by assumption)) rfl ?_ | refine AL_ev (Ev_ix_ref rfl rfl te46 ts48 (by omega) (by first | omega | (simp; omega))) rfl ?_
              first | refine AL_ev (Ev_load_ptr rfl rfl rfl rfl rfl rfl ts48 ta48 (by first | rfl | simp) (by intro h; cases h)) rfl ?_ | refine AL_ev (Ev_load_rp rfl rfl rfl ts48 ta48 (by first | rfl | simp) (by intro h; cases h)) rfl ?_
              refine AL_ev (Ev_move) rfl ?_
              refine AL_ev (Ev_move) rfl ?_
              refine AL_ev (Ev_move) rfl ?_
              refine AL_fcall0 hT rfl cl36 (ih z (by simp) neg want (eachF (stepW want) x neg out) (bulk_mem hb z (by simp)) (by omega)) rfl rfl ?_
              refine AL_ev (Ev_assign) rfl ?_
              refine AL_nil ?_
              refine hK20 _ _ _ ?_
              refine AC_ret ?_
              refine ret_ok hdm (.tmp rfl rfl .nil) (.cons .d .nil) ?_
              exact congrArg (fun l => [D.sl .one (strs l)]) (eachF_catch hp).symm
            · skip
              refine AC_skip ?_
              refine hK3 _ _ _ ?_
              refine AC_seq fun K21 hK21 => ?_
              refine AC_seq fun K22 hK22 => ?_
              refine AC_region ?_
              refine AL_ev (Ev_move) rfl ?_
              refine AL_ev (Ev_seql rfl rfl) rfl ?_
              refine AL_ev (Ev_move) rfl ?_
              refine AL_bool 72 rfl (fun hg7 => ?_) (fun hg7 => ?_)
              · skip
                refine AL_guard_f rfl rfl rfl rfl ?_
                refine AL_guard_f rfl rfl rfl rfl ?_
                refine AL_ev (Ev_pick rfl) rfl ?_
                refine AL_ev (Ev_move) rfl ?_
                refine AL_guard_f rfl rfl rfl rfl ?_
                refine AL_guard_f rfl rfl rfl rfl ?_
                refine AL_guard_f rfl rfl rfl rfl ?_
                refine AL_ev (Ev_pick rfl) rfl ?_
                refine AL_nil ?_
                refine hK22 _ _ _ ?_
                refine AC_cond_t rfl ?_
                refine AC_seq fun K23 hK23 => ?_
                refine AC_region ?_
                refine AL_ev (Ev_move) rfl ?_
                refine AL_ev (Ev_assign) rfl ?_
                refine AL_nil ?_
                refine hK23 _ _ _ ?_
                refine AC_ret ?_
                refine ret_ok hdm (.tmp rfl rfl .nil) (.cons .d .nil) ?_
                exact congrArg (fun l => [D.sl .one (strs l)]) ((eachF_end hc1 hc2 hc3 hc4 hc5 hc6).trans (if_pos (by simp_all))).symm
              · skip
                refine AL_guard_t rfl rfl rfl ?_
                refine AL_ev (Ev_move) rfl ?_
                refine AL_guard_t rfl rfl rfl ?_
                refine AL_fcall0 hT rfl cl52 (c_specControl (predS (.mk k s m ks))) rfl rfl ?_
                refine AL_ev (Ev_pick rfl) rfl ?_
                refine AL_ev (Ev_move) rfl ?_
                refine AL_bool 76 rfl (fun hg8 => ?_) (fun hg8 => ?_)
                · skip
                  refine AL_guard_f rfl rfl rfl rfl ?_
                  refine AL_guard_f rfl rfl rfl rfl ?_
                  refine AL_guard_f rfl rfl rfl rfl ?_
                  refine AL_ev (Ev_pick rfl) rfl ?_
                  refine AL_nil ?_
                  refine hK22 _ _ _ ?_
                  refine AC_cond_t rfl ?_
                  refine AC_seq fun K24 hK24 => ?_
                  refine AC_region ?_
                  refine AL_ev (Ev_move) rfl ?_
                  refine AL_ev (Ev_assign) rfl ?_
                  refine AL_nil ?_
                  refine hK24 _ _ _ ?_
                  refine AC_ret ?_
                  refine ret_ok hdm (.tmp rfl rfl .nil) (.cons .d .nil) ?_
                  exact congrArg (fun l => [D.sl .one (strs l)]) ((eachF_end hc1 hc2 hc3 hc4 hc5 hc6).trans (if_pos (by simp_all))).symm
                · skip
                  refine AL_guard_t rfl rfl rfl ?_
                  refine AL_ev (Ev_move) rfl ?_
                  refine AL_guard_t rfl rfl rfl ?_
                  refine AL_ev (Ev_move) rfl ?_
                  refine AL_guard_t rfl rfl rfl ?_
                  refine AL_ev (Ev_bneq tbool4 rfl rfl) rfl ?_
                  refine AL_ev (Ev_pick rfl) rfl ?_
                  refine AL_nil ?_
                  refine hK22 _ _ _ ?_
                  refine AC_cond rfl (fun hc9 => ?_) (fun hc9 => ?_)
                  · skip
                    refine AC_seq fun K25 hK25 => ?_
                    refine AC_region ?_
                    refine AL_ev (Ev_move) rfl ?_
                    refine AL_ev (Ev_assign) rfl ?_
                    refine AL_nil ?_
                    refine hK25 _ _ _ ?_
                    refine AC_ret ?_
                    refine ret_ok hdm (.tmp rfl rfl .nil) (.cons .d .nil) ?_
                    exact congrArg (fun l => [D.sl .one (strs l)]) ((eachF_end hc1 hc2 hc3 hc4 hc5 hc6).trans ((if_neg (by simp_all)).trans (by unfold stepW; rw [if_neg (by simpa using hc9)]))).symm
                  · skip
                    refine AC_skip ?_
                    refine hK21 _ _ _ ?_
                    refine AC_seq fun K26 hK26 => ?_
                    refine AC_region ?_
                    refine AL_ev (Ev_move) rfl ?_
                    refine AL_ev (Ev_move) rfl ?_
                    refine AL_fcall0 hT rfl cl32 (c_l23Add out (predS (.mk k s m ks)) (by rw [sz] at hl; omega)) rfl rfl ?_
                    refine AL_ev (Ev_assign) rfl ?_
                    refine AL_nil ?_
                    refine hK26 _ _ _ ?_
                    refine AC_ret ?_
                    refine ret_ok hdm (.tmp rfl rfl .nil) (.cons .d .nil) ?_
                    exact congrArg (fun l => [D.sl .one (strs l)]) ((eachF_end hc1 hc2 hc3 hc4 hc5 hc6).trans ((if_neg (by simp_all)).trans (by unfold stepW; rw [if_pos (by simpa using hc9)]))).symm

set_option maxHeartbeats 1000000 in
set_option maxRecDepth 4000 in
theorem c_l23Denied (d : Dbt) (p : ByteArray) (want : Bool) (hb : bulkD d ≤ 1048576) : PCall Tryd.prog 16 [injD d, .c (.string p), .c (.bool want)] (· = [.sl .one (strs (deny d.cs p want))]) := by
  have hw := szB_bulk d.cs
  have hw2 := szB_clsOf d.cs p
  obtain ⟨hnc, hbc, hno, hbo⟩ := bulkD_bd (cs := d.cs) (op := d.op) hb
  have hmem := fun c (h : c ∈ clsOf d.cs p) => bulkCs_bd (clsOf_mem h) hbc
  have hll := clsOf_len d.cs p
  obtain ⟨xs, hxs⟩ : ∃ xs, xs = clsOf d.cs p := ⟨_, rfl⟩
  unfold deny
  rw [← hxs] at hw2 hmem hll ⊢
  refine PCall_of (n := 35) Tryd.func16 rfl rfl (Nat.le_of_ble_eq_true rfl) fun C hdm hT0 => ?_
  have hT := hT0
  refine AC_seq fun K1 hK1 => ?_
  refine AC_region ?_
  refine AL_box (Lay.st [.one, .one]) (nf rfl) rfl (by first | rfl | simp [Lay.len, Lay.lens]) _ rfl rfl ?_
  refine AL_ev (Ev_assign) rfl ?_
  refine AL_nil ?_
  refine hK1 _ _ _ ?_
  refine AC_seq fun K2 hK2 => ?_
  refine AC_region ?_
  first | refine AL_bD .one rfl te23 ts9 tz9 rfl rfl (by decide) (by decide) (by first | rfl | simp [lenDs, goodVs, goodV, V.known, Lay.len, Lay.lens]) rfl ?_ | refine AL_bV .one rfl te23 ts9 tz9 rfl rfl (by decide) (by decide) (by first | rfl | simp [lenDs, goodVs, goodV, V.known, Lay.len, Lay.lens]) _ rfl rfl ?_
  refine AL_ev (Ev_assign) rfl ?_
  refine AL_nil ?_
  refine hK2 _ _ _ ?_
  refine AC_seq fun K3 hK3 => ?_
  refine AC_region ?_
  first | refine AL_ev (Ev_load_ptr rfl rfl rfl rfl rfl rfl ts32 ta32 (by first | rfl | simp) (by intro h; cases h)) rfl ?_ | refine AL_ev (Ev_load_rp rfl rfl rfl ts32 ta32 (by first | rfl | simp) (by intro h; cases h)) rfl ?_
  refine AL_ev (Ev_move) rfl ?_
  refine AL_fcall0 hT rfl cl34 (hxs ▸ c_specClausesOf d p (by omega)) rfl rfl ?_
  refine AL_ev (Ev_assign) rfl ?_
  refine AL_nil ?_
  refine hK3 _ _ _ ?_
  refine AC_seq fun K4 hK4 => ?_
  refine AC_seq fun K5 hK5 => ?_
  refine AC_region ?_
  refine AL_ev (Ev_assign) rfl ?_
  refine AL_nil ?_
  refine hK5 _ _ _ ?_
  refine AC_block ?_
  refine AC_loopS [2, 8] (Nat × List ByteArray) (fun ⟨j, out⟩ => [(9, i64 j), (7, .d (.sl .one (strs out)))]) (fun ⟨j, out⟩ => []) (fun st => xs.length - st.1) (fun ⟨j, out⟩ => j ≤ xs.length ∧ (denyA want xs [] = denyA want (xs.drop j) out ∧ out.length + szB (xs.drop j) ≤ 2097152)) ((0, [])) ?_ ?_ ?_
  · skip
    exact enterS [] rfl rfl BxTo_nil (SlTo_cons (by first | exact .rd .d | exact Vw_int (by first | rfl | assumption | omega | (simp; done) | (simp; omega)) | exact Vw_c (by first | rfl | (simp; done) | simp_all) | exact .any) (SlTo_cons (by first | exact .rd .d | exact Vw_int (by first | rfl | assumption | omega | (simp; done) | (simp; omega)) | exact Vw_c (by first | rfl | (simp; done) | simp_all) | exact .any) (SlTo_cons (by first | exact .rd .d | exact .any) (SlTo_cons (by first | exact .rd .d | exact .any) SlTo_nil))))
  · skip
    exact ⟨Nat.zero_le _, by simp, by simp; omega⟩
  rintro ⟨j, out⟩ ⟨hj, ⟨hI, ho⟩⟩
  show AC _ _ _ _ _ (FS [2, 8] _ [(9, i64 j), (7, .d (.sl .one (strs out)))]) []
  refine AC_seq fun K6 hK6 => ?_
  refine AC_seq fun K7 hK7 => ?_
  refine AC_region ?_
  refine AL_ev (Ev_move) rfl ?_
  refine AL_ev (Ev_move) rfl ?_
  first | refine AL_lim (x := (Operand.tmp 15)) rfl fun hl1 => ?_ | refine AL_limB (x := (Operand.tmp 15)) rfl rfl (by first | rfl | (simp; done) | (simp; omega)) fun hl1 => ?_ | have hl1 := True.intro
  try simp only [injs_length, ints_length, strs_length, injCs_length, List.length_map] at hl1
  first | refine AL_ev (Ev_len_injCs te30 rfl) rfl ?_ | refine AL_ev (Ev_len_sl te30 rfl) rfl ?_ | refine AL_ev (Ev_len_ref te30 rfl) rfl ?_ | refine AL_ev (Ev_len_nil te30 rfl) rfl ?_ | refine AL_ev (Ev_len_c te30 rfl) rfl ?_
  refine AL_ev (Ev_lss rfl rfl) rfl ?_
  refine AL_nil ?_
  refine hK7 _ _ _ ?_
  refine AC_cond rfl (fun hc1 => ?_) (fun hc1 => ?_)
  · skip
    have hlt : j < xs.length := by simpa using hc1
    obtain ⟨u, hu⟩ : ∃ x, xs[j]? = some x := ⟨_, List.getElem?_eq_getElem hlt⟩
    have hu2 := injCs_get hu
    have hdr := drop_get hu
    obtain ⟨_, hbu, _⟩ := hmem u (List.mem_of_getElem? hu)
    rw [hdr] at hI ho
    rw [denyA] at hI
    rw [szB] at ho
    have hle := eachF_le (μ := fun a : List ByteArray => (a.length : Int)) (stepW_le want) u.b false out
    refine AC_skip ?_
    refine hK6 _ _ _ ?_
    refine AC_seq fun K8 hK8 => ?_
    refine AC_block ?_
    refine AC_seq fun K9 hK9 => ?_
    refine AC_region ?_
    refine AL_ev (Ev_move) rfl ?_
    refine AL_ev (Ev_move) rfl ?_
    first | refine AL_ev (Ev_ix_sl rfl rfl te30 ts50 (by omega) (by assumption)) rfl ?_ | refine AL_ev (Ev_ix_ref rfl rfl te30 ts50 (by omega) (by first | omega | (simp; omega))) rfl ?_
    first | refine AL_ev (Ev_fa_ptr rfl fa50_1 rfl rfl) rfl ?_ | refine AL_ev (Ev_fa_rp rfl fa50_1 rfl rfl) rfl ?_
    first | refine AL_ev (Ev_load_ptr rfl rfl rfl rfl rfl rfl ts48 ta48 (by first | rfl | simp) (by intro h; cases h)) rfl ?_ | refine AL_ev (Ev_load_rp rfl rfl rfl ts48 ta48 (by first | rfl | simp) (by intro h; cases h)) rfl ?_
    refine AL_fcall0 hT rfl cl35 (c_specTermOk u.b (by omega)) rfl rfl ?_
    refine AL_nil ?_
    refine hK9 _ _ _ ?_
    refine AC_cond rfl (fun hc2 => ?_) (fun hc2 => ?_)
    · skip
      refine AC_region ?_
      refine AL_ev (Ev_move) rfl ?_
      refine AL_ev (Ev_move) rfl ?_
      first | refine AL_ev (Ev_ix_sl rfl rfl te30 ts50 (by omega) (by assumption)) rfl ?_ | refine AL_ev (Ev_ix_ref rfl rfl te30 ts50 (by omega) (by first | omega | (simp; omega))) rfl ?_
      first | refine AL_ev (Ev_fa_ptr rfl fa50_1 rfl rfl) rfl ?_ | refine AL_ev (Ev_fa_rp rfl fa50_1 rfl rfl) rfl ?_
      first | refine AL_ev (Ev_load_ptr rfl rfl rfl rfl rfl rfl ts48 ta48 (by first | rfl | simp) (by intro h; cases h)) rfl ?_ | refine AL_ev (Ev_load_rp rfl rfl rfl ts48 ta48 (by first | rfl | simp) (by intro h; cases h)) rfl ?_
      refine AL_ev (Ev_move) rfl ?_
      refine AL_ev (Ev_move) rfl ?_
      refine AL_fcall0 hT rfl cl36 (c_l23Walk u.b false want out (by omega) (by omega)) rfl rfl ?_
      refine AL_ev (Ev_assign) rfl ?_
      refine AL_nil ?_
      refine hK8 _ _ _ ?_
      refine AC_region ?_
      refine AL_ev (Ev_move) rfl ?_
      first | refine AL_ev (Ev_add rfl rfl _ (wrap_id (by first | omega | (simp; omega)) (by first | omega | (simp; omega)))) rfl ?_ | refine AL_ev (Ev_add rfl rfl _ rfl) rfl ?_
      refine AL_ev (Ev_assign) rfl ?_
      refine AL_nil ?_
      refine closeS (j + 1, eachF (stepW want) u.b false out) [] rfl rfl (by show xs.length - (j + 1) < xs.length - j; omega) ⟨hlt, ?_⟩ BxTo_nil (SlTo_cons (by first | exact .rd .d | exact Vw_int (by first | rfl | assumption | omega | (simp; done) | (simp; omega)) | exact Vw_c (by first | rfl | (simp; done) | simp_all) | exact .any) (SlTo_cons (by first | exact .rd .d | exact Vw_int (by first | rfl | assumption | omega | (simp; done) | (simp; omega)) | exact Vw_c (by first | rfl | (simp; done) | simp_all) | exact .any) (SlTo_cons (by first | exact .rd .d | exact .any) (SlTo_cons (by first | exact .rd .d | exact .any) SlTo_nil))))
      exact ⟨by rw [hI, if_pos (by simpa using hc2)], by omega⟩
    · skip
      refine AC_skip ?_
      refine hK8 _ _ _ ?_
      refine AC_region ?_
      refine AL_ev (Ev_move) rfl ?_
      first | refine AL_ev (Ev_add rfl rfl _ (wrap_id (by first | omega | (simp; omega)) (by first | omega | (simp; omega)))) rfl ?_ | refine AL_ev (Ev_add rfl rfl _ rfl) rfl ?_
      refine AL_ev (Ev_assign) rfl ?_
      refine AL_nil ?_
      refine closeS (j + 1, out) [] rfl rfl (by show xs.length - (j + 1) < xs.length - j; omega) ⟨hlt, ?_⟩ BxTo_nil (SlTo_cons (by first | exact .rd .d | exact Vw_int (by first | rfl | assumption | omega | (simp; done) | (simp; omega)) | exact Vw_c (by first | rfl | (simp; done) | simp_all) | exact .any) (SlTo_cons (by first | exact .rd .d | exact Vw_int (by first | rfl | assumption | omega | (simp; done) | (simp; omega)) | exact Vw_c (by first | rfl | (simp; done) | simp_all) | exact .any) (SlTo_cons (by first | exact .rd .d | exact .any) (SlTo_cons (by first | exact .rd .d | exact .any) SlTo_nil))))
      exact ⟨by rw [hI, if_neg (by simpa using hc2)], by omega⟩
  · skip
    have hj2 : j = xs.length := by
      have : ¬ j < xs.length := by simpa using hc1
      omega
    subst hj2
    rw [List.drop_length] at hI
    refine AC_exit ?_
    refine hK4 _ _ _ ?_
    refine AC_seq fun K10 hK10 => ?_
    refine AC_region ?_
    refine AL_ev (Ev_move) rfl ?_
    refine AL_ev (Ev_assign) rfl ?_
    refine AL_nil ?_
    refine hK10 _ _ _ ?_
    refine AC_ret ?_
    refine ret_ok hdm (.tmp rfl rfl .nil) (.cons .d .nil) ?_
    rw [denyA] at hI
    rw [hI]

set_option maxHeartbeats 1000000 in
set_option maxRecDepth 4000 in
theorem c_max (x0 : Int) (r : List Int) : PCall Tryd.prog 26 [.sl .one (ints (x0 :: r))] (· = [.c (.int .i64 (maxF (x0 :: r)))]) := by
  have hu0 : (ints (x0 :: r))[(0 : Int).toNat]? = some (.c (.int .i64 x0)) := rfl
  refine PCall_of (n := 25) Tryd.func26 rfl rfl (Nat.le_of_ble_eq_true rfl) fun C hdm hT0 => ?_
  have hT := hT0
  refine AC_seq fun K1 hK1 => ?_
  refine AC_region ?_
  refine AL_ev (Ev_assign) rfl ?_
  refine AL_nil ?_
  refine hK1 _ _ _ ?_
  refine AC_seq fun K2 hK2 => ?_
  refine AC_seq fun K3 hK3 => ?_
  refine AC_region ?_
  refine AL_ev (Ev_move) rfl ?_
  first | refine AL_lim (x := (Operand.tmp 5)) rfl fun hl1 => ?_ | refine AL_limB (x := (Operand.tmp 5)) rfl rfl (by first | rfl | (simp; done) | (simp; omega)) fun hl1 => ?_ | have hl1 := True.intro
  try simp only [injs_length, ints_length, strs_length, injCs_length, List.length_map] at hl1
  first | refine AL_ev (Ev_len_ints te27 rfl) rfl ?_ | refine AL_ev (Ev_len_sl te27 rfl) rfl ?_ | refine AL_ev (Ev_len_ref te27 rfl) rfl ?_ | refine AL_ev (Ev_len_nil te27 rfl) rfl ?_ | refine AL_ev (Ev_len_c te27 rfl) rfl ?_
  refine AL_ev (Ev_lss rfl rfl) rfl ?_
  refine AL_nil ?_
  refine hK3 _ _ _ ?_
  refine AC_cond rfl (fun hc1 => ?_) (fun hc1 => ?_)
  · skip
    exact absurd hc1 (by simp; omega)
  · skip
    refine AC_skip ?_
    refine hK2 _ _ _ ?_
    refine AC_seq fun K4 hK4 => ?_
    refine AC_region ?_
    refine AL_ev (Ev_move) rfl ?_
    first | refine AL_ev (Ev_ix_sl rfl rfl te27 ts3 (by omega) (by assumption)) rfl ?_ | refine AL_ev (Ev_ix_ref rfl rfl te27 ts3 (by omega) (by first | omega | (simp; omega))) rfl ?_
    first | refine AL_ev (Ev_load_ptr rfl rfl rfl rfl rfl rfl ts3 ta3 rfl (fun _ => rfl)) rfl ?_ | refine AL_ev (Ev_load_rp rfl rfl rfl ts3 ta3 rfl (fun _ => rfl)) rfl ?_
    refine AL_ev (Ev_assign) rfl ?_
    refine AL_nil ?_
    refine hK4 _ _ _ ?_
    refine AC_seq fun K5 hK5 => ?_
    refine AC_seq fun K6 hK6 => ?_
    refine AC_region ?_
    refine AL_ev (Ev_assign) rfl ?_
    refine AL_nil ?_
    refine hK6 _ _ _ ?_
    refine AC_block ?_
    refine AC_loopS [0] (Nat × Int) (fun ⟨i, m⟩ => [(4, i64 i), (3, i64 m)]) (fun ⟨i, m⟩ => []) (fun st => (x0 :: r).length - st.1) (fun ⟨i, m⟩ => maxF (x0 :: r) = ((x0 :: r).drop i).foldl max m) ((1, x0)) ?_ ?_ ?_
    · skip
      exact enterS [] rfl rfl BxTo_nil (SlTo_cons (by first | exact .rd .d | exact Vw_int (by first | rfl | assumption | omega | (simp; done) | (simp; omega)) | exact Vw_c (by first | rfl | (simp; done) | simp_all) | exact .any) (SlTo_cons (by first | exact .rd .d | exact Vw_int (by first | rfl | assumption | omega | (simp; done) | (simp; omega)) | exact Vw_c (by first | rfl | (simp; done) | simp_all) | exact .any) (SlTo_cons (by first | exact .rd .d | exact .any) SlTo_nil)))
    · skip
      rfl
    rintro ⟨i, m⟩ hI
    show AC _ _ _ _ _ (FS [0] _ [(4, i64 i), (3, i64 m)]) []
    refine AC_seq fun K7 hK7 => ?_
    refine AC_seq fun K8 hK8 => ?_
    refine AC_region ?_
    refine AL_ev (Ev_move) rfl ?_
    refine AL_ev (Ev_move) rfl ?_
    first | refine AL_lim (x := (Operand.tmp 13)) rfl fun hl2 => ?_ | refine AL_limB (x := (Operand.tmp 13)) rfl rfl (by first | rfl | (simp; done) | (simp; omega)) fun hl2 => ?_ | have hl2 := True.intro
    try simp only [injs_length, ints_length, strs_length, injCs_length, List.length_map] at hl2
    first | refine AL_ev (Ev_len_ints te27 rfl) rfl ?_ | refine AL_ev (Ev_len_sl te27 rfl) rfl ?_ | refine AL_ev (Ev_len_ref te27 rfl) rfl ?_ | refine AL_ev (Ev_len_nil te27 rfl) rfl ?_ | refine AL_ev (Ev_len_c te27 rfl) rfl ?_
    refine AL_ev (Ev_lss rfl rfl) rfl ?_
    refine AL_nil ?_
    refine hK8 _ _ _ ?_
    refine AC_cond rfl (fun hc2 => ?_) (fun hc2 => ?_)
    · skip
      have hlt : i < (x0 :: r).length := by have := of_decide_eq_true hc2; omega
      obtain ⟨u, hu⟩ : ∃ u, (x0 :: r)[i]? = some u := ⟨_, List.getElem?_eq_getElem hlt⟩
      have hu2 := ints_get hu
      have hdr := drop_get hu
      refine AC_skip ?_
      refine hK7 _ _ _ ?_
      refine AC_seq fun K9 hK9 => ?_
      refine AC_block ?_
      refine AC_region ?_
      refine AL_ev (Ev_move) rfl ?_
      refine AL_ev (Ev_move) rfl ?_
      refine AL_ev (Ev_move) rfl ?_
      first | refine AL_ev (Ev_ix_sl rfl rfl te27 ts3 (by omega) (by assumption)) rfl ?_ | refine AL_ev (Ev_ix_ref rfl rfl te27 ts3 (by omega) (by first | omega | (simp; omega))) rfl ?_
      first | refine AL_ev (Ev_load_ptr rfl rfl rfl rfl rfl rfl ts3 ta3 rfl (fun _ => rfl)) rfl ?_ | refine AL_ev (Ev_load_rp rfl rfl rfl ts3 ta3 rfl (fun _ => rfl)) rfl ?_
      refine AL_ev (Ev_max rfl rfl) rfl ?_
      refine AL_ev (Ev_assign) rfl ?_
      refine AL_nil ?_
      refine hK9 _ _ _ ?_
      refine AC_region ?_
      refine AL_ev (Ev_move) rfl ?_
      first | refine AL_ev (Ev_add rfl rfl _ (wrap_id (by first | omega | (simp; omega)) (by first | omega | (simp; omega)))) rfl ?_ | refine AL_ev (Ev_add rfl rfl _ rfl) rfl ?_
      refine AL_ev (Ev_assign) rfl ?_
      refine AL_nil ?_
      refine closeS (i + 1, max m u) [] rfl rfl (by show (x0 :: r).length - (i + 1) < (x0 :: r).length - i; omega) ?_ BxTo_nil (SlTo_cons (by first | exact .rd .d | exact Vw_int (by first | rfl | assumption | omega | (simp; done) | (simp; omega)) | exact Vw_c (by first | rfl | (simp; done) | simp_all) | exact .any) (SlTo_cons (by first | exact .rd .d | exact Vw_int (by first | rfl | assumption | omega | (simp; done) | (simp; omega)) | exact Vw_c (by first | rfl | (simp; done) | simp_all) | exact .any) (SlTo_cons (by first | exact .rd .d | exact .any) SlTo_nil)))
      rw [hI, hdr, List.foldl_cons]
    · skip
      have hge : (x0 :: r).length ≤ i := by have := of_decide_eq_false hc2; omega
      refine AC_exit ?_
      refine hK5 _ _ _ ?_
      refine AC_seq fun K10 hK10 => ?_
      refine AC_region ?_
      refine AL_ev (Ev_move) rfl ?_
      refine AL_ev (Ev_assign) rfl ?_
      refine AL_nil ?_
      refine hK10 _ _ _ ?_
      refine AC_ret ?_
      refine ret_ok hdm (.tmp rfl rfl .nil) (.cons .d .nil) ?_
      rw [hI, List.drop_eq_nil_of_le hge]
      rfl

set_option maxHeartbeats 4000000 in
set_option maxRecDepth 4000 in
theorem c_specLevelsOf (d : Dbt) (hb : bulkD d ≤ 1048576) : PCall Tryd.prog 5 [injD d] (· = [.sl .one (ints (levOf d).1), .c (.bool (levOf d).2)]) := by
  have hw := szB_bulk d.cs
  obtain ⟨hnc, hbc, hno, hbo⟩ := bulkD_bd (cs := d.cs) (op := d.op) hb
  obtain ⟨ps, hps⟩ : ∃ ps, ps = predsF d.cs [] := ⟨_, rfl⟩
  have hpl := predsF_len d.cs []
  have hpn : ps.Nodup := hps ▸ predsF_nodup d.cs List.nodup_nil
  have hpm : ∀ c ∈ d.cs, predS c.h ∈ ps := fun c hc => hps ▸ predsF_mem d.cs hc
  rw [← hps] at hpl
  simp only [List.length_nil, Nat.zero_add] at hpl
  refine PCall_of (n := 81) Tryd.func5 rfl rfl (Nat.le_of_ble_eq_true rfl) fun C hdm hT0 => ?_
  have hT := hT0
  refine AC_seq fun K1 hK1 => ?_
  refine AC_region ?_
  refine AL_box (Lay.st [.one, .one]) (nf rfl) rfl (by first | rfl | simp [Lay.len, Lay.lens]) _ rfl rfl ?_
  refine AL_ev (Ev_assign) rfl ?_
  refine AL_ev (Ev_assign) rfl ?_
  refine AL_nil ?_
  refine hK1 _ _ _ ?_
  refine AC_seq fun K2 hK2 => ?_
  refine AC_region ?_
  first | refine AL_ev (Ev_load_ptr rfl rfl rfl hes2 rfl rfl ts32 ta32 (by first | rfl | simp) (by intro h; cases h)) rfl ?_ | refine AL_ev (Ev_load_ptr rfl rfl rfl hes rfl rfl ts32 ta32 (by first | rfl | simp) (by intro h; cases h)) rfl ?_ | refine AL_ev (Ev_load_ptr rfl rfl rfl rfl rfl rfl ts32 ta32 (by first | rfl | simp) (by intro h; cases h)) rfl ?_ | refine AL_ev (Ev_load_rp rfl rfl rfl ts32 ta32 (by first | rfl | simp) (by intro h; cases h)) rfl ?_
  refine AL_fcall0 hT rfl cl15 (hps ▸ c_specPredsOf d hb) rfl rfl ?_
  refine AL_ev (Ev_assign) rfl ?_
  refine AL_nil ?_
  refine hK2 _ _ _ ?_
  refine AC_seq fun K3 hK3 => ?_
  refine AC_region ?_
  refine AL_ev (Ev_move) rfl ?_
  first | refine AL_lim (x := (Operand.tmp 15)) rfl fun hl1 => ?_ | refine AL_limB (x := (Operand.tmp 15)) rfl rfl (by first | rfl | (simp; done) | (simp; omega)) fun hl1 => ?_ | have hl1 := True.intro
  try simp only [injs_length, ints_length, strs_length, injCs_length, List.length_map] at hl1
  first | refine AL_ev (Ev_len_strs te23 rfl) rfl ?_ | refine AL_ev (Ev_len_sl te23 rfl) rfl ?_ | refine AL_ev (Ev_len_ref te23 rfl) rfl ?_ | refine AL_ev (Ev_len_nil te23 rfl) rfl ?_ | refine AL_ev (Ev_len_c te23 rfl) rfl ?_
  refine AL_ev (Ev_assign) rfl ?_
  refine AL_nil ?_
  refine hK3 _ _ _ ?_
  refine AC_seq fun K4 hK4 => ?_
  refine AC_region ?_
  refine AL_ev (Ev_move) rfl ?_
  refine AL_makeSlice .one te27 ts3 zo3 tb3 rfl (by simp only [lim]; first | omega | (simp; done) | (simp; omega)) (by first | omega | (simp; omega)) (by decide) _ rfl rfl ?_
  refine AL_ev (Ev_assign) rfl ?_
  refine AL_nil ?_
  refine hK4 _ _ _ ?_
  refine AC_seq fun K5 hK5 => ?_
  refine AC_region ?_
  refine AL_ev (Ev_assign) rfl ?_
  refine AL_nil ?_
  refine hK5 _ _ _ ?_
  refine AC_seq fun K6 hK6 => ?_
  refine AC_block ?_
  refine AC_loopS [4, 5] (Bool × List Int) (fun ⟨ch, l⟩ => [(7, bl ch), (6, .ref .one 0 0 (ints l).length), (1, .d (.rp (Lay.st [.one, .one]) (injD d) []))]) (fun ⟨ch, l⟩ => [some ⟨3, .one, (ints l).map V.d⟩]) (fun st => mL ps.length st.1 st.2) (fun ⟨ch, l⟩ => (BelL ps (· ∈ edI ps d.cs) l ∧ bdL ps.length ps.length l ∧ (ch = false → SolL ps (· ∈ edI ps d.cs) l))) ((true, List.replicate ps.length 0)) ?_ ?_ ?_
  · skip
    exact enterS [some 1] rfl rfl (BxTo_some rfl rfl rfl rfl (by first | exact .nil | exact VwL_dd (by simp [ints]) | exact VwL_app (by simp [ints]) | exact VwL_of (by simp [ints])) BxTo_nil) (SlTo_cons (by first | exact .rd .d | exact Vw_int (by first | rfl | assumption | omega | (simp; done) | (simp; omega)) | exact Vw_c (by first | rfl | (simp; done) | simp_all) | exact .any) (SlTo_cons (Vw_refe rfl (by first | rfl | simp)) (SlTo_cons (by first | exact .rd (.ptr (srcFree rfl) rfl rfl rfl .d) | exact .rd .d) (SlTo_cons (by first | exact .rd .d | exact .any) (SlTo_cons (by first | exact .rd .d | exact .any) SlTo_nil)))))
  · skip
    exact ⟨BelL_zero rfl, bdL_zero _, fun h => by cases h⟩
  rintro ⟨ch, l⟩ ⟨hB, hbd, hS⟩
  show AC _ _ _ _ _ (FS [4, 5] _ [(7, bl ch), (6, .ref .one 0 0 (ints l).length), (1, .d (.rp (Lay.st [.one, .one]) (injD d) []))]) [some ⟨3, .one, (ints l).map V.d⟩]
  refine AC_seq fun K7 hK7 => ?_
  refine AC_seq fun K8 hK8 => ?_
  refine AC_region ?_
  refine AL_ev (Ev_move) rfl ?_
  refine AL_nil ?_
  refine hK8 _ _ _ ?_
  refine AC_cond rfl (fun hc1 => ?_) (fun hc1 => ?_)
  · skip
    refine AC_skip ?_
    refine hK7 _ _ _ ?_
    refine AC_block ?_
    refine AC_seq fun K9 hK9 => ?_
    refine AC_region ?_
    refine AL_ev (Ev_assign) rfl ?_
    refine AL_nil ?_
    refine hK9 _ _ _ ?_
    refine AC_seq fun K10 hK10 => ?_
    refine AC_region ?_
    refine AL_ev (Ev_assign) rfl ?_
    refine AL_nil ?_
    refine hK10 _ _ _ ?_
    refine AC_block ?_
    refine AC_loopS [1, 4, 5] (Nat × Bool × List Int) (fun ⟨i, ch2, l2⟩ => [(8, i64 i), (7, bl ch2), (6, .ref .one 0 0 (ints l2).length)]) (fun ⟨i, ch2, l2⟩ => [some ⟨3, .one, (ints l2).map V.d⟩]) (fun st => ps.length - st.1) (fun ⟨i, ch2, l2⟩ => (i ≤ ps.length ∧ (l2, ch2) = runE ps (edT d.cs ps i) (l, false) ∧ bdL ps.length ps.length l2)) ((0, false, l)) ?_ ?_ ?_
    · skip
      exact enterS [some 0] rfl rfl (BxTo_some rfl rfl rfl rfl (by first | exact .nil | exact VwL_dd (by first | rfl | simp) | exact VwL_app (by first | rfl | simp) | exact VwL_of (by first | rfl | simp)) BxTo_nil) (SlTo_cons (by first | exact .rd .d | exact Vw_int (by first | rfl | assumption | omega | (simp; done) | (simp; omega)) | exact Vw_c (by first | rfl | (simp; done) | simp_all) | exact .any) (SlTo_cons (by first | exact .rd .d | exact Vw_int (by first | rfl | assumption | omega | (simp; done) | (simp; omega)) | exact Vw_c (by first | rfl | (simp; done) | simp_all) | exact .any) (SlTo_cons (Vw_refe rfl (by first | rfl | simp)) (SlTo_cons (by first | exact .rd .d | exact .any) (SlTo_cons (by first | exact .rd .d | exact .any) (SlTo_cons (by first | exact .rd .d | exact .any) SlTo_nil))))))
    · skip
      exact ⟨Nat.zero_le _, rfl, hbd⟩
    rintro ⟨i, ch2, l2⟩ ⟨hi, hR2, hbd2⟩
    show AC _ _ _ _ _ (FS [1, 4, 5] _ [(8, i64 i), (7, bl ch2), (6, .ref .one 0 0 (ints l2).length)]) [some ⟨3, .one, (ints l2).map V.d⟩]
    refine AC_seq fun K11 hK11 => ?_
    refine AC_seq fun K12 hK12 => ?_
    refine AC_region ?_
    refine AL_ev (Ev_move) rfl ?_
    refine AL_ev (Ev_move) rfl ?_
    refine AL_ev (Ev_lss rfl rfl) rfl ?_
    refine AL_nil ?_
    refine hK12 _ _ _ ?_
    refine AC_cond rfl (fun hc2 => ?_) (fun hc2 => ?_)
    · skip
      have hip0 : i < ps.length := by have := of_decide_eq_true hc2; omega
      obtain ⟨p, hip⟩ : ∃ p, ps[i]? = some p := ⟨_, List.getElem?_eq_getElem hip0⟩
      have hu2p := strs_get hip
      refine AC_skip ?_
      refine hK11 _ _ _ ?_
      refine AC_seq fun K13 hK13 => ?_
      refine AC_block ?_
      refine AC_seq fun K14 hK14 => ?_
      refine AC_seq fun K15 hK15 => ?_
      refine AC_region ?_
      refine AL_ev (Ev_assign) rfl ?_
      refine AL_nil ?_
      refine hK15 _ _ _ ?_
      refine AC_block ?_
      refine AC_loopS [1, 4, 5, 8] (Nat × Bool × List Int) (fun ⟨k, ch3, l3⟩ => [(9, i64 k), (7, bl ch3), (6, .ref .one 0 0 (ints l3).length)]) (fun ⟨k, ch3, l3⟩ => [some ⟨3, .one, (ints l3).map V.d⟩]) (fun st => 2 - st.1) (fun ⟨k, ch3, l3⟩ => (k ≤ 2 ∧ (l3, ch3) = runE ps (edKs d.cs i p k) (l2, ch2) ∧ bdL ps.length (ps.length + k * 2097152) l3)) ((0, ch2, l2)) ?_ ?_ ?_
      · skip
        exact enterS [some 0] rfl rfl (BxTo_some rfl rfl rfl rfl (by first | exact .nil | exact VwL_dd (by first | rfl | simp) | exact VwL_app (by first | rfl | simp) | exact VwL_of (by first | rfl | simp)) BxTo_nil) (SlTo_cons (by first | exact .rd .d | exact Vw_int (by first | rfl | assumption | omega | (simp; done) | (simp; omega)) | exact Vw_c (by first | rfl | (simp; done) | simp_all) | exact .any) (SlTo_cons (by first | exact .rd .d | exact Vw_int (by first | rfl | assumption | omega | (simp; done) | (simp; omega)) | exact Vw_c (by first | rfl | (simp; done) | simp_all) | exact .any) (SlTo_cons (Vw_refe rfl (by first | rfl | simp)) (SlTo_cons (by first | exact .rd .d | exact .any) (SlTo_cons (by first | exact .rd .d | exact .any) (SlTo_cons (by first | exact .rd .d | exact .any) (SlTo_cons (by first | exact .rd .d | exact .any) SlTo_nil)))))))
      · skip
        exact ⟨by omega, rfl, hbd2.mono (by omega)⟩
      rintro ⟨k, ch3, l3⟩ ⟨hk, hR3, hbd3⟩
      show AC _ _ _ _ _ (FS [1, 4, 5, 8] _ [(9, i64 k), (7, bl ch3), (6, .ref .one 0 0 (ints l3).length)]) [some ⟨3, .one, (ints l3).map V.d⟩]
      refine AC_seq fun K16 hK16 => ?_
      refine AC_seq fun K17 hK17 => ?_
      refine AC_region ?_
      refine AL_ev (Ev_move) rfl ?_
      refine AL_ev (Ev_lss rfl rfl) rfl ?_
      refine AL_nil ?_
      refine hK17 _ _ _ ?_
      refine AC_cond rfl (fun hc3 => ?_) (fun hc3 => ?_)
      · skip
        have hk2 : k < 2 := by have := of_decide_eq_true hc3; omega
        have hdl := deny_len d.cs p (decide (((k : Nat) : Int) = 1))
        refine AC_skip ?_
        refine hK16 _ _ _ ?_
        refine AC_seq fun K18 hK18 => ?_
        refine AC_block ?_
        refine AC_seq fun K19 hK19 => ?_
        refine AC_draw hT follows [0, 1, 2, 3, 4, 5, 6, 7, 8] (by kernel_rfl) ?_
        first | refine DT_ev rfl (EA_load_ptr rfl rfl rfl hes2 rfl rfl ts32 ta32 (by first | rfl | simp) (by intro h; cases h)) rfl ?_ | refine DT_ev rfl (EA_load_ptr rfl rfl rfl hes rfl rfl ts32 ta32 (by first | rfl | simp) (by intro h; cases h)) rfl ?_ | refine DT_ev rfl (EA_load_ptr rfl rfl rfl rfl rfl rfl ts32 ta32 (by first | rfl | simp) (by intro h; cases h)) rfl ?_ | refine DT_ev rfl (EA_load_rp rfl rfl rfl ts32 ta32 (by first | rfl | simp) (by intro h; cases h)) rfl ?_
        refine DT_ev rfl (EA_move) rfl ?_
        refine DT_ev rfl (EA_move) rfl ?_
        first | refine DT_ev rfl (EA_ix_sl rfl rfl te23 ts9 (by omega) (by assumption)) rfl ?_ | refine DT_ev rfl (EA_ix_ref rfl rfl te23 ts9 (by omega) (by first | omega | (simp; omega))) rfl ?_
        first | refine DT_ev rfl (EA_load_ptr rfl rfl rfl hes2 rfl rfl ts9 ta9 rfl (fun _ => rfl)) rfl ?_ | refine DT_ev rfl (EA_load_ptr rfl rfl rfl hes rfl rfl ts9 ta9 rfl (fun _ => rfl)) rfl ?_ | refine DT_ev rfl (EA_load_ptr rfl rfl rfl rfl rfl rfl ts9 ta9 rfl (fun _ => rfl)) rfl ?_ | refine DT_ev rfl (EA_load_rp rfl rfl rfl ts9 ta9 rfl (fun _ => rfl)) rfl ?_
        refine DT_ev rfl (EA_move) rfl ?_
        refine DT_ev rfl (EA_eql rfl rfl) rfl ?_
        refine DT_fcall0 rfl rfl cl16 (c_l23Denied d p (decide (((k : Nat) : Int) = 1)) hb) rfl rfl ?_
        refine DT_ev rfl (EA_assign) rfl ?_
        refine DTi.nil ?_
        refine hK19 _ _ _ ?_
        refine AC_seq fun K20 hK20 => ?_
        refine AC_region ?_
        refine AL_ev (Ev_assign) rfl ?_
        refine AL_nil ?_
        refine hK20 _ _ _ ?_
        refine AC_block ?_
        refine AC_loopS [1, 4, 5, 8, 9, 10] (Nat × Bool × List Int) (fun ⟨j, ch4, l4⟩ => [(11, i64 j), (7, bl ch4), (6, .ref .one 0 0 (ints l4).length)]) (fun ⟨j, ch4, l4⟩ => [some ⟨3, .one, (ints l4).map V.d⟩]) (fun st => (deny d.cs p (decide (((k : Nat) : Int) = 1))).length - st.1) (fun ⟨j, ch4, l4⟩ => j ≤ (deny d.cs p (decide (((k : Nat) : Int) = 1))).length ∧ (runE ps (edK d.cs i p (decide (((k : Nat) : Int) = 1))) (l3, ch3) = runE ps (((deny d.cs p (decide (((k : Nat) : Int) = 1))).drop j).map fun s => (i, s, decide (((k : Nat) : Int) = 1))) (l4, ch4) ∧ bdL ps.length (ps.length + k * 2097152 + j) l4)) ((0, ch3, l3)) ?_ ?_ ?_
        · skip
          exact enterS [some 0] rfl rfl (BxTo_some rfl rfl rfl rfl (by first | exact .nil | exact VwL_dd (by first | rfl | simp) | exact VwL_app (by first | rfl | simp) | exact VwL_of (by first | rfl | simp)) BxTo_nil) (SlTo_cons (by first | exact .rd .d | exact Vw_int (by first | rfl | assumption | omega | (simp; done) | (simp; omega)) | exact Vw_c (by first | rfl | (simp; done) | simp_all) | exact .any) (SlTo_cons (by first | exact .rd .d | exact Vw_int (by first | rfl | assumption | omega | (simp; done) | (simp; omega)) | exact Vw_c (by first | rfl | (simp; done) | simp_all) | exact .any) (SlTo_cons (Vw_refe rfl (by first | rfl | simp)) (SlTo_cons (by first | exact .rd .d | exact .any) (SlTo_cons (by first | exact .rd .d | exact .any) (SlTo_cons (by first | exact .rd .d | exact .any) (SlTo_cons (by first | exact .rd .d | exact .any) (SlTo_cons (by first | exact .rd .d | exact .any) (SlTo_cons (by first | exact .rd .d | exact .any) SlTo_nil)))))))))
        · skip
          exact ⟨Nat.zero_le _, rfl, hbd3.mono (by omega)⟩
        rintro ⟨j, ch4, l4⟩ ⟨hj, ⟨hR4, hbd4⟩⟩
        show AC _ _ _ _ _ (FS [1, 4, 5, 8, 9, 10] _ [(11, i64 j), (7, bl ch4), (6, .ref .one 0 0 (ints l4).length)]) [some ⟨3, .one, (ints l4).map V.d⟩]
        refine AC_seq fun K21 hK21 => ?_
        refine AC_seq fun K22 hK22 => ?_
        refine AC_region ?_
        refine AL_ev (Ev_move) rfl ?_
        refine AL_ev (Ev_move) rfl ?_
        first | refine AL_lim (x := (Operand.tmp 38)) rfl fun hl2 => ?_ | refine AL_limB (x := (Operand.tmp 38)) rfl rfl (by first | rfl | (simp; done) | (simp; omega)) fun hl2 => ?_ | have hl2 := True.intro
        try simp only [injs_length, ints_length, strs_length, injCs_length, List.length_map] at hl2
        first | refine AL_ev (Ev_len_strs te23 rfl) rfl ?_ | refine AL_ev (Ev_len_sl te23 rfl) rfl ?_ | refine AL_ev (Ev_len_ref te23 rfl) rfl ?_ | refine AL_ev (Ev_len_nil te23 rfl) rfl ?_ | refine AL_ev (Ev_len_c te23 rfl) rfl ?_
        refine AL_ev (Ev_lss rfl rfl) rfl ?_
        refine AL_nil ?_
        refine hK22 _ _ _ ?_
        refine AC_cond rfl (fun hc4 => ?_) (fun hc4 => ?_)
        · skip
          have hlt : j < (deny d.cs p (decide (((k : Nat) : Int) = 1))).length := by simpa using hc4
          obtain ⟨v, hu⟩ : ∃ x, (deny d.cs p (decide (((k : Nat) : Int) = 1)))[j]? = some x := ⟨_, List.getElem?_eq_getElem hlt⟩
          have hu2 := strs_get hu
          have hdr := drop_get hu
          rw [hdr, List.map_cons, runE_cons] at hR4
          have hl4 := hbd4.1
          have hbi := hbd4.2 i
          have hba := hbd4.2 (idxS ps v 0).toNat
          have hix := idxP_bd ps v
          unfold idxP at hix
          have hes := ints_es (l := l4) (i := 0 + ((i : Nat) : Int).toNat) (by simp; omega)
          rw [show 0 + ((i : Nat) : Int).toNat = i by omega] at hes
          have hes : ((ints l4).map V.d)[0 + ((i : Nat) : Int).toNat]? = some (.d (.c (.int .i64 (l4.getD i 0)))) := by rw [show 0 + ((i : Nat) : Int).toNat = i by omega]; exact hes
          have hgd : bdL ps.length (ps.length + k * 2097152 + j + 1) (rlx ps i (l4, ch4) v (decide (((k : Nat) : Int) = 1))).1 := rlx_bdL hbd4 (by omega)
          have hwk : wB (decide (((k : Nat) : Int) = 1)) = k := by
            have : k = 0 ∨ k = 1 := by omega
            rcases this with rfl | rfl <;> rfl
          refine AC_skip ?_
          refine hK21 _ _ _ ?_
          refine AC_seq fun K23 hK23 => ?_
          refine AC_block ?_
          refine AC_seq fun K24 hK24 => ?_
          refine AC_region ?_
          refine AL_ev (Ev_move) rfl ?_
          refine AL_ev (Ev_move) rfl ?_
          refine AL_ev (Ev_move) rfl ?_
          first | refine AL_ev (Ev_ix_sl rfl rfl te23 ts9 (by omega) (by assumption)) rfl ?_ | refine AL_ev (Ev_ix_ref rfl rfl te23 ts9 (by omega) (by first | omega | (simp; omega))) rfl ?_
          first | refine AL_ev (Ev_load_ptr rfl rfl rfl hes2 rfl rfl ts9 ta9 rfl (fun _ => rfl)) rfl ?_ | refine AL_ev (Ev_load_ptr rfl rfl rfl hes rfl rfl ts9 ta9 rfl (fun _ => rfl)) rfl ?_ | refine AL_ev (Ev_load_ptr rfl rfl rfl rfl rfl rfl ts9 ta9 rfl (fun _ => rfl)) rfl ?_ | refine AL_ev (Ev_load_rp rfl rfl rfl ts9 ta9 rfl (fun _ => rfl)) rfl ?_
          refine AL_fcall0 hT rfl cl17 (c_l23At ps v) rfl rfl ?_
          refine AL_ev (Ev_assign) rfl ?_
          refine AL_nil ?_
          refine hK24 _ _ _ ?_
          refine AC_seq fun K25 hK25 => ?_
          refine AC_draw hT follows [0, 1, 2, 3, 4, 5, 6, 7, 8, 9, 10, 11, 12, 13, 14] (by kernel_rfl) ?_
          refine DT_ev rfl (EA_move) rfl ?_
          refine DT_ev rfl (EA_geq rfl rfl) rfl ?_
          refine DT_ev rfl (EA_move) rfl ?_
          refine DT_bool 51 rfl (fun hg5 => ?_) (fun hg5 => ?_)
          · skip
            have hat : 0 ≤ idxS ps v 0 := of_decide_eq_true hg5
            have hes2 : ((ints l4).map V.d)[0 + (idxS ps v 0).toNat]? = some (.d (.c (.int .i64 (l4.getD (idxS ps v 0).toNat 0)))) := by rw [Nat.zero_add]; exact ints_es (by omega)
            refine DT_evt rfl rfl rfl rfl (EA_move) rfl ?_
            refine DT_evt rfl rfl rfl rfl (EA_move) rfl ?_
            first | refine DT_evt rfl rfl rfl rfl (EA_ix_sl rfl rfl te27 ts3 (by omega) (by assumption)) rfl ?_ | refine DT_evt rfl rfl rfl rfl (EA_ix_ref rfl rfl te27 ts3 (by omega) (by first | omega | (simp; omega))) rfl ?_
            first | refine DT_evt rfl rfl rfl rfl (EA_load_ptr rfl rfl rfl hes2 rfl rfl ts3 ta3 rfl (fun _ => rfl)) rfl ?_ | refine DT_evt rfl rfl rfl rfl (EA_load_ptr rfl rfl rfl hes rfl rfl ts3 ta3 rfl (fun _ => rfl)) rfl ?_ | refine DT_evt rfl rfl rfl rfl (EA_load_ptr rfl rfl rfl rfl rfl rfl ts3 ta3 rfl (fun _ => rfl)) rfl ?_ | refine DT_evt rfl rfl rfl rfl (EA_load_rp rfl rfl rfl ts3 ta3 rfl (fun _ => rfl)) rfl ?_
            refine DT_evt rfl rfl rfl rfl (EA_move) rfl ?_
            refine DT_evt rfl rfl rfl rfl (EA_move) rfl ?_
            first | refine DT_evt rfl rfl rfl rfl (EA_ix_sl rfl rfl te27 ts3 (by omega) (by assumption)) rfl ?_ | refine DT_evt rfl rfl rfl rfl (EA_ix_ref rfl rfl te27 ts3 (by omega) (by first | omega | (simp; omega))) rfl ?_
            first | refine DT_evt rfl rfl rfl rfl (EA_load_ptr rfl rfl rfl hes2 rfl rfl ts3 ta3 rfl (fun _ => rfl)) rfl ?_ | refine DT_evt rfl rfl rfl rfl (EA_load_ptr rfl rfl rfl hes rfl rfl ts3 ta3 rfl (fun _ => rfl)) rfl ?_ | refine DT_evt rfl rfl rfl rfl (EA_load_ptr rfl rfl rfl rfl rfl rfl ts3 ta3 rfl (fun _ => rfl)) rfl ?_ | refine DT_evt rfl rfl rfl rfl (EA_load_rp rfl rfl rfl ts3 ta3 rfl (fun _ => rfl)) rfl ?_
            refine DT_evt rfl rfl rfl rfl (EA_move) rfl ?_
            first | refine DT_evt rfl rfl rfl rfl (EA_add rfl rfl _ (wrap_id (by first | omega | (simp; omega)) (by first | omega | (simp; omega)))) rfl ?_ | refine DT_evt rfl rfl rfl rfl (EA_add rfl rfl _ rfl) rfl ?_
            refine DT_evt rfl rfl rfl rfl (EA_lss rfl rfl) rfl ?_
            refine DT_ev rfl (EA_pick rfl) rfl ?_
            refine DTi.nil ?_
            refine hK25 _ _ _ ?_
            refine AC_cond rfl (fun hc6 => ?_) (fun hc6 => ?_)
            · skip
              refine AC_seq fun K26 hK26 => ?_
              refine AC_region ?_
              refine AL_ev (Ev_move) rfl ?_
              refine AL_ev (Ev_move) rfl ?_
              refine AL_ev (Ev_move) rfl ?_
              refine AL_ev (Ev_move) rfl ?_
              first | refine AL_ev (Ev_ix_sl rfl rfl te27 ts3 (by omega) (by assumption)) rfl ?_ | refine AL_ev (Ev_ix_ref rfl rfl te27 ts3 (by omega) (by first | omega | (simp; omega))) rfl ?_
              first | refine AL_ev (Ev_load_ptr rfl rfl rfl hes2 rfl rfl ts3 ta3 rfl (fun _ => rfl)) rfl ?_ | refine AL_ev (Ev_load_ptr rfl rfl rfl hes rfl rfl ts3 ta3 rfl (fun _ => rfl)) rfl ?_ | refine AL_ev (Ev_load_ptr rfl rfl rfl rfl rfl rfl ts3 ta3 rfl (fun _ => rfl)) rfl ?_ | refine AL_ev (Ev_load_rp rfl rfl rfl ts3 ta3 rfl (fun _ => rfl)) rfl ?_
              refine AL_ev (Ev_move) rfl ?_
              first | refine AL_ev (Ev_add rfl rfl _ (wrap_id (by first | omega | (simp; omega)) (by first | omega | (simp; omega)))) rfl ?_ | refine AL_ev (Ev_add rfl rfl _ rfl) rfl ?_
              first | refine AL_ev (Ev_ix_sl rfl rfl te27 ts3 (by omega) (by assumption)) rfl ?_ | refine AL_ev (Ev_ix_ref rfl rfl te27 ts3 (by omega) (by first | omega | (simp; omega))) rfl ?_
              first | refine AL_store rfl (nf rfl) rfl rfl rfl rfl rfl rfl (by first | rfl | simp [Lay.len, Lay.lens]) ts3 rfl rfl ?_ | refine AL_store rfl (nf rfl) rfl rfl rfl hes rfl rfl (by first | rfl | simp [Lay.len, Lay.lens]) ts3 rfl rfl ?_
              refine AL_nil ?_
              refine hK26 _ _ _ ?_
              refine AC_region ?_
              refine AL_ev (Ev_assign) rfl ?_
              refine AL_nil ?_
              refine hK23 _ _ _ ?_
              refine AC_region ?_
              refine AL_ev (Ev_move) rfl ?_
              first | refine AL_ev (Ev_add rfl rfl _ (wrap_id (by first | omega | (simp; omega)) (by first | omega | (simp; omega)))) rfl ?_ | refine AL_ev (Ev_add rfl rfl _ rfl) rfl ?_
              refine AL_ev (Ev_assign) rfl ?_
              refine AL_nil ?_
              refine closeS (j + 1, true, l4.set i (l4.getD (idxS ps v 0).toNat 0 + k)) [some 0] rfl rfl (by show (deny d.cs p (decide (((k : Nat) : Int) = 1))).length - (j + 1) < (deny d.cs p (decide (((k : Nat) : Int) = 1))).length - j; omega) ⟨hlt, ?_⟩ (BxTo_some rfl rfl rfl rfl (by first | exact VwL_app (by rw [show 0 + ((i : Nat) : Int).toNat = i by omega]; exact ints_set _ _ _) | exact VwL_dd (by rw [show 0 + ((i : Nat) : Int).toNat = i by omega]; exact ints_set _ _ _) | exact VwL_of (by rw [show 0 + ((i : Nat) : Int).toNat = i by omega]; exact ints_set _ _ _)) BxTo_nil) (SlTo_cons (by first | exact .rd .d | exact Vw_int (by first | rfl | assumption | omega | (simp; done) | (simp; omega)) | exact Vw_c (by first | rfl | (simp; done) | simp_all) | exact .any) (SlTo_cons (by first | exact .rd .d | exact Vw_int (by first | rfl | assumption | omega | (simp; done) | (simp; omega)) | exact Vw_c (by first | rfl | (simp; done) | simp_all) | exact .any) (SlTo_cons (Vw_refe rfl (by first | rfl | simp)) (SlTo_cons (by first | exact .rd .d | exact .any) (SlTo_cons (by first | exact .rd .d | exact .any) (SlTo_cons (by first | exact .rd .d | exact .any) (SlTo_cons (by first | exact .rd .d | exact .any) (SlTo_cons (by first | exact .rd .d | exact .any) (SlTo_cons (by first | exact .rd .d | exact .any) SlTo_nil)))))))))
              have hrl := rlx_lt (ps := ps) (i := i) (a := (l4, ch4)) (s := v) (n := decide (((k : Nat) : Int) = 1)) hat (by rw [hwk]; exact of_decide_eq_true hc6)
              rw [hwk] at hrl
              rw [hrl] at hgd
              exact ⟨by rw [hR4]; unfold rlxE; simp only; rw [hrl], hgd.mono (by push_cast; omega)⟩
            · skip
              refine AC_skip ?_
              refine hK23 _ _ _ ?_
              refine AC_region ?_
              refine AL_ev (Ev_move) rfl ?_
              first | refine AL_ev (Ev_add rfl rfl _ (wrap_id (by first | omega | (simp; omega)) (by first | omega | (simp; omega)))) rfl ?_ | refine AL_ev (Ev_add rfl rfl _ rfl) rfl ?_
              refine AL_ev (Ev_assign) rfl ?_
              refine AL_nil ?_
              refine closeS (j + 1, ch4, l4) [some 0] rfl rfl (by show (deny d.cs p (decide (((k : Nat) : Int) = 1))).length - (j + 1) < (deny d.cs p (decide (((k : Nat) : Int) = 1))).length - j; omega) ⟨hlt, ?_⟩ (BxTo_some rfl rfl rfl rfl (by first | exact VwL_app (by rfl) | exact VwL_dd (by rfl) | exact VwL_of (by rfl)) BxTo_nil) (SlTo_cons (by first | exact .rd .d | exact Vw_int (by first | rfl | assumption | omega | (simp; done) | (simp; omega)) | exact Vw_c (by first | rfl | (simp; done) | simp_all) | exact .any) (SlTo_cons (by first | exact .rd .d | exact Vw_int (by first | rfl | assumption | omega | (simp; done) | (simp; omega)) | exact Vw_c (by first | rfl | (simp; done) | simp_all) | exact .any) (SlTo_cons (Vw_refe rfl (by first | rfl | simp)) (SlTo_cons (by first | exact .rd .d | exact .any) (SlTo_cons (by first | exact .rd .d | exact .any) (SlTo_cons (by first | exact .rd .d | exact .any) (SlTo_cons (by first | exact .rd .d | exact .any) (SlTo_cons (by first | exact .rd .d | exact .any) (SlTo_cons (by first | exact .rd .d | exact .any) SlTo_nil)))))))))
              have hrl := rlx_ge (ps := ps) (i := i) (a := (l4, ch4)) (s := v) (n := decide (((k : Nat) : Int) = 1)) hat (by rw [hwk]; exact of_decide_eq_false hc6)
              exact ⟨by rw [hR4]; unfold rlxE; simp only; rw [hrl], hbd4.mono (by push_cast; omega)⟩
          · skip
            refine DT_f rfl rfl rfl rfl rfl ?_
            refine DT_f rfl rfl rfl rfl rfl ?_
            refine DT_f rfl rfl rfl rfl rfl ?_
            refine DT_f rfl rfl rfl rfl rfl ?_
            refine DT_f rfl rfl rfl rfl rfl ?_
            refine DT_f rfl rfl rfl rfl rfl ?_
            refine DT_f rfl rfl rfl rfl rfl ?_
            refine DT_f rfl rfl rfl rfl rfl ?_
            refine DT_f rfl rfl rfl rfl rfl ?_
            refine DT_f rfl rfl rfl rfl rfl ?_
            refine DT_f rfl rfl rfl rfl rfl ?_
            refine DT_ev rfl (EA_pick rfl) rfl ?_
            refine DTi.nil ?_
            refine hK25 _ _ _ ?_
            first | refine AC_cond_f rfl ?_ | refine AC_cond_f (congrArg bl hc6) ?_
            refine AC_skip ?_
            refine hK23 _ _ _ ?_
            refine AC_region ?_
            refine AL_ev (Ev_move) rfl ?_
            first | refine AL_ev (Ev_add rfl rfl _ (wrap_id (by first | omega | (simp; omega)) (by first | omega | (simp; omega)))) rfl ?_ | refine AL_ev (Ev_add rfl rfl _ rfl) rfl ?_
            refine AL_ev (Ev_assign) rfl ?_
            refine AL_nil ?_
            refine closeS (j + 1, ch4, l4) [some 0] rfl rfl (by show (deny d.cs p (decide (((k : Nat) : Int) = 1))).length - (j + 1) < (deny d.cs p (decide (((k : Nat) : Int) = 1))).length - j; omega) ⟨hlt, ?_⟩ (BxTo_some rfl rfl rfl rfl (by first | exact VwL_app (by rfl) | exact VwL_dd (by rfl) | exact VwL_of (by rfl)) BxTo_nil) (SlTo_cons (by first | exact .rd .d | exact Vw_int (by first | rfl | assumption | omega | (simp; done) | (simp; omega)) | exact Vw_c (by first | rfl | (simp; done) | simp_all) | exact .any) (SlTo_cons (by first | exact .rd .d | exact Vw_int (by first | rfl | assumption | omega | (simp; done) | (simp; omega)) | exact Vw_c (by first | rfl | (simp; done) | simp_all) | exact .any) (SlTo_cons (Vw_refe rfl (by first | rfl | simp)) (SlTo_cons (by first | exact .rd .d | exact .any) (SlTo_cons (by first | exact .rd .d | exact .any) (SlTo_cons (by first | exact .rd .d | exact .any) (SlTo_cons (by first | exact .rd .d | exact .any) (SlTo_cons (by first | exact .rd .d | exact .any) (SlTo_cons (by first | exact .rd .d | exact .any) SlTo_nil)))))))))
            have hrl := rlx_neg (ps := ps) (i := i) (a := (l4, ch4)) (s := v) (n := decide (((k : Nat) : Int) = 1)) (by have := of_decide_eq_false hg5; omega)
            exact ⟨by rw [hR4]; unfold rlxE; simp only; rw [hrl], hbd4.mono (by push_cast; omega)⟩
        · skip
          have hj2 : j = (deny d.cs p (decide (((k : Nat) : Int) = 1))).length := by
            have : ¬ j < (deny d.cs p (decide (((k : Nat) : Int) = 1))).length := by simpa using hc4
            omega
          subst hj2
          refine AC_exit ?_
          refine hK18 _ _ _ ?_
          refine AC_region ?_
          refine AL_ev (Ev_move) rfl ?_
          first | refine AL_ev (Ev_add rfl rfl _ (wrap_id (by first | omega | (simp; omega)) (by first | omega | (simp; omega)))) rfl ?_ | refine AL_ev (Ev_add rfl rfl _ rfl) rfl ?_
          refine AL_ev (Ev_assign) rfl ?_
          refine AL_nil ?_
          refine closeS (k + 1, ch4, l4) [some 0] rfl rfl (by show 2 - (k + 1) < 2 - k; omega) ?_ (BxTo_some rfl rfl rfl rfl (by first | exact VwL_app (by first | rfl | simp [ints, strs] | simp [ints, strs, injs_map]) | exact VwL_dd (by first | rfl | simp [ints, strs] | simp [ints, strs, injs_map]) | exact VwL_of (by first | rfl | simp [ints, strs] | simp [ints, strs, injs_map])) BxTo_nil) (SlTo_cons (by first | exact .rd .d | exact Vw_int (by first | rfl | assumption | omega | (simp; done) | (simp; omega)) | exact Vw_c (by first | rfl | (simp; done) | simp_all) | exact .any) (SlTo_cons (by first | exact .rd .d | exact Vw_int (by first | rfl | assumption | omega | (simp; done) | (simp; omega)) | exact Vw_c (by first | rfl | (simp; done) | simp_all) | exact .any) (SlTo_cons (Vw_refe rfl (by first | rfl | simp | (simp; omega))) (SlTo_cons (by first | exact .rd .d | exact .any) (SlTo_cons (by first | exact .rd .d | exact .any) (SlTo_cons (by first | exact .rd .d | exact .any) (SlTo_cons (by first | exact .rd .d | exact .any) SlTo_nil)))))))
          rw [List.drop_length] at hR4
          exact ⟨by omega, by rw [edKs_one _ _ _ _ hk2, ← hR3]; exact hR4.symm, hbd4.mono (by push_cast; omega)⟩
      · skip
        have hk2 : k = 2 := by have := of_decide_eq_false hc3; omega
        subst hk2
        have hl3 := hbd3.1
        have hes : ((ints l3).map V.d)[0 + ((i : Nat) : Int).toNat]? = some (.d (.c (.int .i64 (l3.getD i 0)))) := by rw [show 0 + ((i : Nat) : Int).toNat = i by omega]; exact ints_es (by omega)
        have hR3e : (l3, ch3) = runE ps (edS d.cs i p) (l2, ch2) := hR3
        have hBl3 := bel_pass hpn hpm hip hB hR2 hR3e
        refine AC_exit ?_
        refine hK14 _ _ _ ?_
        refine AC_seq fun K27 hK27 => ?_
        refine AC_region ?_
        refine AL_ev (Ev_move) rfl ?_
        refine AL_ev (Ev_move) rfl ?_
        first | refine AL_ev (Ev_ix_sl rfl rfl te27 ts3 (by omega) (by assumption)) rfl ?_ | refine AL_ev (Ev_ix_ref rfl rfl te27 ts3 (by omega) (by first | omega | (simp; omega))) rfl ?_
        first | refine AL_ev (Ev_load_ptr rfl rfl rfl hes2 rfl rfl ts3 ta3 rfl (fun _ => rfl)) rfl ?_ | refine AL_ev (Ev_load_ptr rfl rfl rfl hes rfl rfl ts3 ta3 rfl (fun _ => rfl)) rfl ?_ | refine AL_ev (Ev_load_ptr rfl rfl rfl rfl rfl rfl ts3 ta3 rfl (fun _ => rfl)) rfl ?_ | refine AL_ev (Ev_load_rp rfl rfl rfl ts3 ta3 rfl (fun _ => rfl)) rfl ?_
        refine AL_ev (Ev_move) rfl ?_
        refine AL_ev (Ev_gtr rfl rfl) rfl ?_
        refine AL_nil ?_
        refine hK27 _ _ _ ?_
        refine AC_cond rfl (fun hc7 => ?_) (fun hc7 => ?_)
        · skip
          refine AC_seq fun K28 hK28 => ?_
          refine AC_region ?_
          first | refine AL_bD .one rfl te27 ts3 tz3 rfl rfl (by decide) (by decide) (by first | rfl | simp [lenDs, goodVs, goodV, V.known, Lay.len, Lay.lens]) rfl ?_ | refine AL_bV .one rfl te27 ts3 tz3 rfl rfl (by decide) (by decide) (by first | rfl | simp [lenDs, goodVs, goodV, V.known, Lay.len, Lay.lens]) _ rfl rfl ?_
          refine AL_ev (Ev_assign) rfl ?_
          refine AL_ev (Ev_assign) rfl ?_
          refine AL_nil ?_
          refine hK28 _ _ _ ?_
          refine AC_ret ?_
          refine ret_ok hdm (.tmp rfl rfl (.tmp rfl rfl .nil)) (.cons .d (.cons .d .nil)) ?_
          have hR2 : levOf d = ([], false) := levOf_eq' hps (.inr ⟨rfl, l3, hBl3, i, of_decide_eq_true hc7⟩)
          rw [hR2]
          rfl
        · skip
          have hbd3e := bdL_pass hbd2 hbd3 hR3e (by have := of_decide_eq_false hc7; omega)
          refine AC_skip ?_
          refine hK13 _ _ _ ?_
          refine AC_region ?_
          refine AL_ev (Ev_move) rfl ?_
          first | refine AL_ev (Ev_add rfl rfl _ (wrap_id (by first | omega | (simp; omega)) (by first | omega | (simp; omega)))) rfl ?_ | refine AL_ev (Ev_add rfl rfl _ rfl) rfl ?_
          refine AL_ev (Ev_assign) rfl ?_
          refine AL_nil ?_
          refine closeS (i + 1, ch3, l3) [some 0] rfl rfl (by show ps.length - (i + 1) < ps.length - i; omega) ?_ (BxTo_some rfl rfl rfl rfl (by first | exact VwL_app (by first | rfl | simp [ints, strs] | simp [ints, strs, injs_map]) | exact VwL_dd (by first | rfl | simp [ints, strs] | simp [ints, strs, injs_map]) | exact VwL_of (by first | rfl | simp [ints, strs] | simp [ints, strs, injs_map])) BxTo_nil) (SlTo_cons (by first | exact .rd .d | exact Vw_int (by first | rfl | assumption | omega | (simp; done) | (simp; omega)) | exact Vw_c (by first | rfl | (simp; done) | simp_all) | exact .any) (SlTo_cons (by first | exact .rd .d | exact Vw_int (by first | rfl | assumption | omega | (simp; done) | (simp; omega)) | exact Vw_c (by first | rfl | (simp; done) | simp_all) | exact .any) (SlTo_cons (Vw_refe rfl (by first | rfl | simp | (simp; omega))) (SlTo_cons (by first | exact .rd .d | exact .any) (SlTo_cons (by first | exact .rd .d | exact .any) (SlTo_cons (by first | exact .rd .d | exact .any) SlTo_nil))))))
          exact ⟨by omega, by rw [edT, hip, runE_app, ← hR2]; exact hR3e, hbd3e⟩
    · skip
      have hin : i = ps.length := by have := of_decide_eq_false hc2; omega
      subst hin
      have hPE := pass_end hpn hpm (edT_sub hpn hpm) (fun e he => edT_all hpn hpm he) hB hR2
      have hml := mL_lt hPE.2.2 hbd2
      have hct : ch = true := hc1
      subst hct
      refine AC_exit ?_
      refine closeS (ch2, l2) [some 0] rfl rfl (by show mL ps.length ch2 l2 < mL ps.length true l; omega) ?_ (BxTo_some rfl rfl rfl rfl (by first | exact VwL_app (by first | rfl | simp [ints, strs] | simp [ints, strs, injs_map]) | exact VwL_dd (by first | rfl | simp [ints, strs] | simp [ints, strs, injs_map]) | exact VwL_of (by first | rfl | simp [ints, strs] | simp [ints, strs, injs_map])) BxTo_nil) (SlTo_cons (by first | exact .rd .d | exact Vw_int (by first | rfl | assumption | omega | (simp; done) | (simp; omega)) | exact Vw_c (by first | rfl | (simp; done) | simp_all) | exact .any) (SlTo_cons (Vw_refe rfl (by first | rfl | simp | (simp; omega))) (SlTo_cons (by first | exact .rd (.ptr (srcFree rfl) rfl rfl rfl .d) | exact .rd .d) (SlTo_cons (by first | exact .rd .d | exact .any) (SlTo_cons (by first | exact .rd .d | exact .any) SlTo_nil)))))
      exact ⟨hPE.1, hbd2, fun h => (hPE.2.1 h).1⟩
  · skip
    have hcf : ch = false := hc1
    refine AC_exit ?_
    refine hK6 _ _ _ ?_
    refine AC_seq fun K29 hK29 => ?_
    refine AC_region ?_
    refine AL_ev (Ev_move) rfl ?_
    refine AL_ev (Ev_assign) rfl ?_
    refine AL_ev (Ev_assign) rfl ?_
    refine AL_nil ?_
    refine hK29 _ _ _ ?_
    refine AC_ret ?_
    refine ret_ok hdm (.tmp rfl rfl (.tmp rfl rfl .nil)) (.cons (.ref trivial rfl rfl (by simp) (ReadsL_d _)) (.cons .d .nil)) ?_
    have hR2 : levOf d = (l, true) := levOf_eq' hps (.inl ⟨rfl, hS hcf, hB, fun q => (hbd.2 q).2⟩)
    rw [hR2]

set_option maxHeartbeats 1000000 in
set_option maxRecDepth 4000 in
theorem c_levelsOf1 (ps : List ByteArray) (at0 : Nat) (hat : at0 < ps.length) (s : ByteArray) (neg : Bool) (l l1 : List Int) (c c1 : Bool) (hg : goodL ps (l, c)) (hsup : supL l + 1 ≤ 1099511627776) (hrl : rlx ps at0 (l, c) s neg = (l1, c1)) : HCall Tryd.prog 25 [st s, bl neg, .ptr .one 0 0 [], .ptr .one 2 0 [], .ptr .one 4 0 [], .ptr .one 5 0 []] [⟨23, .one, [.ref .one 1 0 ps.length]⟩, ⟨9, .one, (strs ps).map V.d⟩, ⟨27, .one, [.ref .one 3 0 ps.length]⟩, ⟨3, .one, (ints (l)).map V.d⟩, ⟨3, .one, [i64 ((at0 : Nat) : Int)]⟩, ⟨4, .one, [bl (c)]⟩] 6 none [] [⟨23, .one, [.ref .one 1 0 ps.length]⟩, ⟨9, .one, (strs ps).map V.d⟩, ⟨27, .one, [.ref .one 3 0 ps.length]⟩, ⟨3, .one, (ints (l1)).map V.d⟩, ⟨3, .one, [i64 ((at0 : Nat) : Int)]⟩, ⟨4, .one, [bl (c1)]⟩] := by
  have hl := hg.1
  have hi0 := hg.2 at0
  have hsi := supL_get l at0
  have hix := idxP_bd ps s
  unfold idxP at hix
  have hj0 := hg.2 (idxS ps s 0).toNat
  have hsj := supL_get l (idxS ps s 0).toNat
  simp only at hl hi0 hj0
  have hes : ((ints l).map V.d)[0 + ((at0 : Nat) : Int).toNat]? = some (.d (.c (.int .i64 (l.getD at0 0)))) := by rw [show 0 + ((at0 : Nat) : Int).toNat = at0 by omega]; exact ints_es (by omega)
  refine HCall_of (n := 32) Tryd.func25 rfl rfl (Nat.le_of_ble_eq_true rfl) (Nat.le_of_ble_eq_true rfl) fun C0 o hdm hT => ?_
  refine AC_seq fun K1 hK1 => ?_
  refine AC_region ?_
  first | refine AL_ev (Ev_load_ptr rfl rfl rfl hes2 rfl rfl ts23 ta23 rfl (fun _ => rfl)) rfl ?_ | refine AL_ev (Ev_load_ptr rfl rfl rfl hes rfl rfl ts23 ta23 rfl (fun _ => rfl)) rfl ?_ | refine AL_ev (Ev_load_ptr rfl rfl rfl rfl rfl rfl ts23 ta23 rfl (fun _ => rfl)) rfl ?_ | refine AL_ev (Ev_load_rp rfl rfl rfl ts23 ta23 rfl (fun _ => rfl)) rfl ?_
  refine AL_ev (Ev_move) rfl ?_
  refine AL_qcall hT rfl cl22 (c_indexS ps s) (.cons (.rd (.ref trivial rfl rfl (by first | (simp; done) | (simp; omega)) (ReadsL_d _))) (.cons (.rd .d) .nil)) rfl ?_
  refine AL_ev (Ev_assign) rfl ?_
  refine AL_nil ?_
  refine hK1 _ _ _ ?_
  refine AC_seq fun K2 hK2 => ?_
  refine AC_seq fun K3 hK3 => ?_
  refine AC_region ?_
  refine AL_ev (Ev_move) rfl ?_
  refine AL_ev (Ev_lss rfl rfl) rfl ?_
  refine AL_nil ?_
  refine hK3 _ _ _ ?_
  refine AC_cond rfl (fun hc1 => ?_) (fun hc1 => ?_)
  · skip
    obtain ⟨rfl, rfl⟩ := Prod.mk.inj ((rlx_neg (ps := ps) (i := at0) (a := (l, c)) (s := s) (n := neg) (of_decide_eq_true hc1)).symm.trans hrl)
    refine AC_ret ?_
    exact reth_ok [0, 1, 2, 3, 4, 5] (CExt.refl _) .nil rfl rfl (BxF_stay rfl rfl rfl rfl rfl (.cons (.ref rfl) .nil) rfl (BxF_stay rfl rfl rfl rfl rfl (VxL_d _) rfl (BxF_stay rfl rfl rfl rfl rfl (.cons (.ref rfl) .nil) rfl (BxF_stay rfl rfl rfl rfl rfl (VxL_d _) rfl (BxF_stay rfl rfl rfl rfl rfl (.cons .d .nil) rfl (BxF_stay rfl rfl rfl rfl rfl (.cons .d .nil) rfl BxF_nil)))))) (Nat.le_refl _) .nil
  · skip
    have hat2 : 0 ≤ idxS ps s 0 := by have := of_decide_eq_false hc1; omega
    have hes2 : ((ints l).map V.d)[0 + (idxS ps s 0).toNat]? = some (.d (.c (.int .i64 (l.getD (idxS ps s 0).toNat 0)))) := by rw [Nat.zero_add]; exact ints_es (by omega)
    refine AC_skip ?_
    refine hK2 _ _ _ ?_
    refine AC_seq fun K4 hK4 => ?_
    refine AC_region ?_
    first | refine AL_ev (Ev_load_ptr rfl rfl rfl hes2 rfl rfl ts27 ta27 rfl (fun _ => rfl)) rfl ?_ | refine AL_ev (Ev_load_ptr rfl rfl rfl hes rfl rfl ts27 ta27 rfl (fun _ => rfl)) rfl ?_ | refine AL_ev (Ev_load_ptr rfl rfl rfl rfl rfl rfl ts27 ta27 rfl (fun _ => rfl)) rfl ?_ | refine AL_ev (Ev_load_rp rfl rfl rfl ts27 ta27 rfl (fun _ => rfl)) rfl ?_
    refine AL_ev (Ev_move) rfl ?_
    first | refine AL_ev (Ev_ix_sl rfl rfl te27 ts3 (by omega) (by assumption)) rfl ?_ | refine AL_ev (Ev_ix_ref rfl rfl te27 ts3 (by omega) (by first | omega | (simp; omega))) rfl ?_
    first | refine AL_ev (Ev_load_ptr rfl rfl rfl hes2 rfl rfl ts3 ta3 rfl (fun _ => rfl)) rfl ?_ | refine AL_ev (Ev_load_ptr rfl rfl rfl hes rfl rfl ts3 ta3 rfl (fun _ => rfl)) rfl ?_ | refine AL_ev (Ev_load_ptr rfl rfl rfl rfl rfl rfl ts3 ta3 rfl (fun _ => rfl)) rfl ?_ | refine AL_ev (Ev_load_rp rfl rfl rfl ts3 ta3 rfl (fun _ => rfl)) rfl ?_
    refine AL_ev (Ev_assign) rfl ?_
    refine AL_nil ?_
    refine hK4 _ _ _ ?_
    refine AC_seq fun K5 hK5 => ?_
    refine AC_seq fun K6 hK6 => ?_
    refine AC_region ?_
    refine AL_ev (Ev_move) rfl ?_
    refine AL_nil ?_
    refine hK6 _ _ _ ?_
    refine AC_cond rfl (fun hc2 => ?_) (fun hc2 => ?_)
    · skip
      have hneg : neg = true := hc2
      subst hneg
      refine AC_region ?_
      refine AL_ev (Ev_move) rfl ?_
      first | refine AL_ev (Ev_add rfl rfl _ (wrap_id (by first | omega | (simp; omega)) (by first | omega | (simp; omega)))) rfl ?_ | refine AL_ev (Ev_add rfl rfl _ rfl) rfl ?_
      refine AL_ev (Ev_assign) rfl ?_
      refine AL_nil ?_
      refine hK5 _ _ _ ?_
      refine AC_seq fun K7 hK7 => ?_
      refine AC_region ?_
      first | refine AL_ev (Ev_load_ptr rfl rfl rfl hes2 rfl rfl ts27 ta27 rfl (fun _ => rfl)) rfl ?_ | refine AL_ev (Ev_load_ptr rfl rfl rfl hes rfl rfl ts27 ta27 rfl (fun _ => rfl)) rfl ?_ | refine AL_ev (Ev_load_ptr rfl rfl rfl rfl rfl rfl ts27 ta27 rfl (fun _ => rfl)) rfl ?_ | refine AL_ev (Ev_load_rp rfl rfl rfl ts27 ta27 rfl (fun _ => rfl)) rfl ?_
      first | refine AL_ev (Ev_load_ptr rfl rfl rfl hes2 rfl rfl ts3 ta3 rfl (fun _ => rfl)) rfl ?_ | refine AL_ev (Ev_load_ptr rfl rfl rfl hes rfl rfl ts3 ta3 rfl (fun _ => rfl)) rfl ?_ | refine AL_ev (Ev_load_ptr rfl rfl rfl rfl rfl rfl ts3 ta3 rfl (fun _ => rfl)) rfl ?_ | refine AL_ev (Ev_load_rp rfl rfl rfl ts3 ta3 rfl (fun _ => rfl)) rfl ?_
      first | refine AL_ev (Ev_ix_sl rfl rfl te27 ts3 (by omega) (by assumption)) rfl ?_ | refine AL_ev (Ev_ix_ref rfl rfl te27 ts3 (by omega) (by first | omega | (simp; omega))) rfl ?_
      first | refine AL_ev (Ev_load_ptr rfl rfl rfl hes2 rfl rfl ts3 ta3 rfl (fun _ => rfl)) rfl ?_ | refine AL_ev (Ev_load_ptr rfl rfl rfl hes rfl rfl ts3 ta3 rfl (fun _ => rfl)) rfl ?_ | refine AL_ev (Ev_load_ptr rfl rfl rfl rfl rfl rfl ts3 ta3 rfl (fun _ => rfl)) rfl ?_ | refine AL_ev (Ev_load_rp rfl rfl rfl ts3 ta3 rfl (fun _ => rfl)) rfl ?_
      refine AL_ev (Ev_move) rfl ?_
      refine AL_ev (Ev_lss rfl rfl) rfl ?_
      refine AL_nil ?_
      refine hK7 _ _ _ ?_
      refine AC_cond rfl (fun hc3 => ?_) (fun hc3 => ?_)
      · skip
        have hq : rlx ps at0 (l, c) s true = (l.set at0 (l.getD (idxS ps s 0).toNat 0 + 1), true) := by
          have h9 := rlx_lt (ps := ps) (i := at0) (a := (l, c)) (s := s) (n := true) hat2 (by simp only [show wB true = 1 from rfl, Int.add_zero]; exact of_decide_eq_true hc3)
          simpa only [show wB true = 1 from rfl, Int.add_zero] using h9
        obtain ⟨rfl, rfl⟩ := Prod.mk.inj (hq.symm.trans hrl)
        refine AC_seq fun K8 hK8 => ?_
        refine AC_region ?_
        first | refine AL_ev (Ev_load_ptr rfl rfl rfl hes2 rfl rfl ts27 ta27 rfl (fun _ => rfl)) rfl ?_ | refine AL_ev (Ev_load_ptr rfl rfl rfl hes rfl rfl ts27 ta27 rfl (fun _ => rfl)) rfl ?_ | refine AL_ev (Ev_load_ptr rfl rfl rfl rfl rfl rfl ts27 ta27 rfl (fun _ => rfl)) rfl ?_ | refine AL_ev (Ev_load_rp rfl rfl rfl ts27 ta27 rfl (fun _ => rfl)) rfl ?_
        first | refine AL_ev (Ev_load_ptr rfl rfl rfl hes2 rfl rfl ts3 ta3 rfl (fun _ => rfl)) rfl ?_ | refine AL_ev (Ev_load_ptr rfl rfl rfl hes rfl rfl ts3 ta3 rfl (fun _ => rfl)) rfl ?_ | refine AL_ev (Ev_load_ptr rfl rfl rfl rfl rfl rfl ts3 ta3 rfl (fun _ => rfl)) rfl ?_ | refine AL_ev (Ev_load_rp rfl rfl rfl ts3 ta3 rfl (fun _ => rfl)) rfl ?_
        refine AL_ev (Ev_move) rfl ?_
        first | refine AL_ev (Ev_ix_sl rfl rfl te27 ts3 (by omega) (by assumption)) rfl ?_ | refine AL_ev (Ev_ix_ref rfl rfl te27 ts3 (by omega) (by first | omega | (simp; omega))) rfl ?_
        first | refine AL_store rfl (nf rfl) rfl rfl rfl rfl rfl rfl (by first | rfl | simp [Lay.len, Lay.lens]) ts3 rfl rfl ?_ | refine AL_store rfl (nf rfl) rfl rfl rfl hes rfl rfl (by first | rfl | simp [Lay.len, Lay.lens]) ts3 rfl rfl ?_
        refine AL_nil ?_
        refine hK8 _ _ _ ?_
        refine AC_region ?_
        first | refine AL_store rfl (nf rfl) rfl rfl rfl rfl rfl rfl (by first | rfl | simp [Lay.len, Lay.lens]) ts4 rfl rfl ?_ | refine AL_store rfl (nf rfl) rfl rfl rfl hes rfl rfl (by first | rfl | simp [Lay.len, Lay.lens]) ts4 rfl rfl ?_
        refine AL_nil ?_
        exact reth_ok [0, 1, 2, 3, 4, 5] (CExt.refl _) .nil rfl rfl (BxF_stay rfl rfl rfl rfl rfl (.cons (.ref rfl) .nil) rfl (BxF_stay rfl rfl rfl rfl rfl (VxL_d _) rfl (BxF_stay rfl rfl rfl rfl rfl (.cons (.ref rfl) .nil) rfl (BxF_stay rfl rfl rfl rfl rfl (VxL_ds (by rw [show 0 + ((at0 : Nat) : Int).toNat = at0 by omega]; exact ints_set _ _ _)) rfl (BxF_stay rfl rfl rfl rfl rfl (.cons .d .nil) rfl (BxF_stay rfl rfl rfl rfl rfl (.cons .d .nil) rfl BxF_nil)))))) (Nat.le_refl _) .nil
      · skip
        obtain ⟨rfl, rfl⟩ := Prod.mk.inj ((rlx_ge (ps := ps) (i := at0) (a := (l, c)) (s := s) (n := true) hat2 (by simp only [show wB true = 1 from rfl, Int.add_zero]; exact of_decide_eq_false hc3)).symm.trans hrl)
        refine AC_skip ?_
        exact reth_ok [0, 1, 2, 3, 4, 5] (CExt.refl _) .nil rfl rfl (BxF_stay rfl rfl rfl rfl rfl (.cons (.ref rfl) .nil) rfl (BxF_stay rfl rfl rfl rfl rfl (VxL_d _) rfl (BxF_stay rfl rfl rfl rfl rfl (.cons (.ref rfl) .nil) rfl (BxF_stay rfl rfl rfl rfl rfl (VxL_d _) rfl (BxF_stay rfl rfl rfl rfl rfl (.cons .d .nil) rfl (BxF_stay rfl rfl rfl rfl rfl (.cons .d .nil) rfl BxF_nil)))))) (Nat.le_refl _) .nil
    · skip
      have hneg : neg = false := hc2
      subst hneg
      refine AC_skip ?_
      refine hK5 _ _ _ ?_
      refine AC_seq fun K9 hK9 => ?_
      refine AC_region ?_
      first | refine AL_ev (Ev_load_ptr rfl rfl rfl hes2 rfl rfl ts27 ta27 rfl (fun _ => rfl)) rfl ?_ | refine AL_ev (Ev_load_ptr rfl rfl rfl hes rfl rfl ts27 ta27 rfl (fun _ => rfl)) rfl ?_ | refine AL_ev (Ev_load_ptr rfl rfl rfl rfl rfl rfl ts27 ta27 rfl (fun _ => rfl)) rfl ?_ | refine AL_ev (Ev_load_rp rfl rfl rfl ts27 ta27 rfl (fun _ => rfl)) rfl ?_
      first | refine AL_ev (Ev_load_ptr rfl rfl rfl hes2 rfl rfl ts3 ta3 rfl (fun _ => rfl)) rfl ?_ | refine AL_ev (Ev_load_ptr rfl rfl rfl hes rfl rfl ts3 ta3 rfl (fun _ => rfl)) rfl ?_ | refine AL_ev (Ev_load_ptr rfl rfl rfl rfl rfl rfl ts3 ta3 rfl (fun _ => rfl)) rfl ?_ | refine AL_ev (Ev_load_rp rfl rfl rfl ts3 ta3 rfl (fun _ => rfl)) rfl ?_
      first | refine AL_ev (Ev_ix_sl rfl rfl te27 ts3 (by omega) (by assumption)) rfl ?_ | refine AL_ev (Ev_ix_ref rfl rfl te27 ts3 (by omega) (by first | omega | (simp; omega))) rfl ?_
      first | refine AL_ev (Ev_load_ptr rfl rfl rfl hes2 rfl rfl ts3 ta3 rfl (fun _ => rfl)) rfl ?_ | refine AL_ev (Ev_load_ptr rfl rfl rfl hes rfl rfl ts3 ta3 rfl (fun _ => rfl)) rfl ?_ | refine AL_ev (Ev_load_ptr rfl rfl rfl rfl rfl rfl ts3 ta3 rfl (fun _ => rfl)) rfl ?_ | refine AL_ev (Ev_load_rp rfl rfl rfl ts3 ta3 rfl (fun _ => rfl)) rfl ?_
      refine AL_ev (Ev_move) rfl ?_
      refine AL_ev (Ev_lss rfl rfl) rfl ?_
      refine AL_nil ?_
      refine hK9 _ _ _ ?_
      refine AC_cond rfl (fun hc4 => ?_) (fun hc4 => ?_)
      · skip
        have hq : rlx ps at0 (l, c) s false = (l.set at0 (l.getD (idxS ps s 0).toNat 0), true) := by
          have h9 := rlx_lt (ps := ps) (i := at0) (a := (l, c)) (s := s) (n := false) hat2 (by simp only [show wB false = 0 from rfl, Int.add_zero]; exact of_decide_eq_true hc4)
          simpa only [show wB false = 0 from rfl, Int.add_zero] using h9
        obtain ⟨rfl, rfl⟩ := Prod.mk.inj (hq.symm.trans hrl)
        refine AC_seq fun K10 hK10 => ?_
        refine AC_region ?_
        first | refine AL_ev (Ev_load_ptr rfl rfl rfl hes2 rfl rfl ts27 ta27 rfl (fun _ => rfl)) rfl ?_ | refine AL_ev (Ev_load_ptr rfl rfl rfl hes rfl rfl ts27 ta27 rfl (fun _ => rfl)) rfl ?_ | refine AL_ev (Ev_load_ptr rfl rfl rfl rfl rfl rfl ts27 ta27 rfl (fun _ => rfl)) rfl ?_ | refine AL_ev (Ev_load_rp rfl rfl rfl ts27 ta27 rfl (fun _ => rfl)) rfl ?_
        first | refine AL_ev (Ev_load_ptr rfl rfl rfl hes2 rfl rfl ts3 ta3 rfl (fun _ => rfl)) rfl ?_ | refine AL_ev (Ev_load_ptr rfl rfl rfl hes rfl rfl ts3 ta3 rfl (fun _ => rfl)) rfl ?_ | refine AL_ev (Ev_load_ptr rfl rfl rfl rfl rfl rfl ts3 ta3 rfl (fun _ => rfl)) rfl ?_ | refine AL_ev (Ev_load_rp rfl rfl rfl ts3 ta3 rfl (fun _ => rfl)) rfl ?_
        refine AL_ev (Ev_move) rfl ?_
        first | refine AL_ev (Ev_ix_sl rfl rfl te27 ts3 (by omega) (by assumption)) rfl ?_ | refine AL_ev (Ev_ix_ref rfl rfl te27 ts3 (by omega) (by first | omega | (simp; omega))) rfl ?_
        first | refine AL_store rfl (nf rfl) rfl rfl rfl rfl rfl rfl (by first | rfl | simp [Lay.len, Lay.lens]) ts3 rfl rfl ?_ | refine AL_store rfl (nf rfl) rfl rfl rfl hes rfl rfl (by first | rfl | simp [Lay.len, Lay.lens]) ts3 rfl rfl ?_
        refine AL_nil ?_
        refine hK10 _ _ _ ?_
        refine AC_region ?_
        first | refine AL_store rfl (nf rfl) rfl rfl rfl rfl rfl rfl (by first | rfl | simp [Lay.len, Lay.lens]) ts4 rfl rfl ?_ | refine AL_store rfl (nf rfl) rfl rfl rfl hes rfl rfl (by first | rfl | simp [Lay.len, Lay.lens]) ts4 rfl rfl ?_
        refine AL_nil ?_
        exact reth_ok [0, 1, 2, 3, 4, 5] (CExt.refl _) .nil rfl rfl (BxF_stay rfl rfl rfl rfl rfl (.cons (.ref rfl) .nil) rfl (BxF_stay rfl rfl rfl rfl rfl (VxL_d _) rfl (BxF_stay rfl rfl rfl rfl rfl (.cons (.ref rfl) .nil) rfl (BxF_stay rfl rfl rfl rfl rfl (VxL_ds (by rw [show 0 + ((at0 : Nat) : Int).toNat = at0 by omega]; exact ints_set _ _ _)) rfl (BxF_stay rfl rfl rfl rfl rfl (.cons .d .nil) rfl (BxF_stay rfl rfl rfl rfl rfl (.cons .d .nil) rfl BxF_nil)))))) (Nat.le_refl _) .nil
      · skip
        obtain ⟨rfl, rfl⟩ := Prod.mk.inj ((rlx_ge (ps := ps) (i := at0) (a := (l, c)) (s := s) (n := false) hat2 (by simp only [show wB false = 0 from rfl, Int.add_zero]; exact of_decide_eq_false hc4)).symm.trans hrl)
        refine AC_skip ?_
        exact reth_ok [0, 1, 2, 3, 4, 5] (CExt.refl _) .nil rfl rfl (BxF_stay rfl rfl rfl rfl rfl (.cons (.ref rfl) .nil) rfl (BxF_stay rfl rfl rfl rfl rfl (VxL_d _) rfl (BxF_stay rfl rfl rfl rfl rfl (.cons (.ref rfl) .nil) rfl (BxF_stay rfl rfl rfl rfl rfl (VxL_d _) rfl (BxF_stay rfl rfl rfl rfl rfl (.cons .d .nil) rfl (BxF_stay rfl rfl rfl rfl rfl (.cons .d .nil) rfl BxF_nil)))))) (Nat.le_refl _) .nil

theorem c_levEach (ps : List ByteArray) (at0 : Nat) (hat : at0 < ps.length) (t : T) (l l1 : List Int) (c c1 : Bool) (hb : bulk t ≤ 1048576) (hg : goodL ps (l, c)) (hsup : supL l ≤ 8388608) (hr : eachF (rlx ps at0) t false (l, c) = (l1, c1)) :
    HCall Tryd.prog 24 [.d (inj t), bl false, .fn 25 [.ptr .one 0 0 [], .ptr .one 2 0 [], .ptr .one 4 0 [], .ptr .one 5 0 []]] [⟨23, .one, [.ref .one 1 0 ps.length]⟩, ⟨9, .one, (strs ps).map V.d⟩, ⟨27, .one, [.ref .one 3 0 ps.length]⟩, ⟨3, .one, (ints (l)).map V.d⟩, ⟨3, .one, [i64 ((at0 : Nat) : Int)]⟩, ⟨4, .one, [bl (c)]⟩] 6 none [.any] [⟨23, .one, [.ref .one 1 0 ps.length]⟩, ⟨9, .one, (strs ps).map V.d⟩, ⟨27, .one, [.ref .one 3 0 ps.length]⟩, ⟨3, .one, (ints (l1)).map V.d⟩, ⟨3, .one, [i64 ((at0 : Nat) : Int)]⟩, ⟨4, .one, [bl (c1)]⟩] := by
  have h := HCall_of_F (P := Tryd.prog) (k := 24) (kk := 25) (m := 6) (Ls := fun a : LvA => [⟨23, .one, [.ref .one 1 0 ps.length]⟩, ⟨9, .one, (strs ps).map V.d⟩, ⟨27, .one, [.ref .one 3 0 ps.length]⟩, ⟨3, .one, (ints (a.1)).map V.d⟩, ⟨3, .one, [i64 ((at0 : Nat) : Int)]⟩, ⟨4, .one, [bl (a.2)]⟩]) (pre := [inj t, .c (.bool false)]) (ps := [0, 2, 4, 5]) (a0 := (l, c)) (a1 := (l1, c1)) (fun j hj => by
    simp only [List.mem_cons, List.not_mem_nil, or_false] at hj
    rcases hj with rfl | rfl | rfl | rfl <;> exact ⟨_, rfl, by simp⟩) rfl (by
    intro bx hbx
    simp only [List.mem_cons, List.not_mem_nil, or_false] at hbx
    rcases hbx with rfl | rfl | rfl | rfl | rfl | rfl
    · intro v hv; rw [List.mem_singleton] at hv; subst hv; trivial
    · exact free_strs _
    · intro v hv; rw [List.mem_singleton] at hv; subst hv; trivial
    · exact free_ints _
    · intro v hv; rw [List.mem_singleton] at hv; subst hv; rfl
    · intro v hv; rw [List.mem_singleton] at hv; subst hv; rfl) (by
    intro bx hbx
    simp only [List.mem_cons, List.not_mem_nil, or_false] at hbx
    rcases hbx with rfl | rfl | rfl | rfl | rfl | rfl
    · intro v hv; rw [List.mem_singleton] at hv; subst hv; trivial
    · exact free_strs _
    · intro v hv; rw [List.mem_singleton] at hv; subst hv; trivial
    · exact free_ints _
    · intro v hv; rw [List.mem_singleton] at hv; subst hv; rfl
    · intro v hv; rw [List.mem_singleton] at hv; subst hv; rfl) (fun o ho => by
    have hsb := sz_bulk t
    have he := c_eachCall (Jbx o 6 fun a : LvA => [⟨23, .one, [.ref .one 1 0 ps.length]⟩, ⟨9, .one, (strs ps).map V.d⟩, ⟨27, .one, [.ref .one 3 0 ps.length]⟩, ⟨3, .one, (ints (a.1)).map V.d⟩, ⟨3, .one, [i64 ((at0 : Nat) : Int)]⟩, ⟨4, .one, [bl (a.2)]⟩]) 25 ([0, 2, 4, 5].map (ptrO o)) (by simp [ptrO_scalar]) cl25 (rlx ps at0) (μL ps) (μL_le ps at0) (fun s n a ha => by
      obtain ⟨hg2, hs2⟩ := μL_good ha
      obtain ⟨l2, c2⟩ := a
      exact FCall_of_H (ds := [.c (.string s), .c (.bool n)]) (ps := [0, 2, 4, 5]) (a1 := rlx ps at0 (l2, c2) s n) ho rfl rfl (by
    intro bx hbx
    simp only [List.mem_cons, List.not_mem_nil, or_false] at hbx
    rcases hbx with rfl | rfl | rfl | rfl | rfl | rfl
    · intro v hv; rw [List.mem_singleton] at hv; subst hv; trivial
    · exact free_strs _
    · intro v hv; rw [List.mem_singleton] at hv; subst hv; trivial
    · exact free_ints _
    · intro v hv; rw [List.mem_singleton] at hv; subst hv; rfl
    · intro v hv; rw [List.mem_singleton] at hv; subst hv; rfl) (by
    intro bx hbx
    simp only [List.mem_cons, List.not_mem_nil, or_false] at hbx
    rcases hbx with rfl | rfl | rfl | rfl | rfl | rfl
    · intro v hv; rw [List.mem_singleton] at hv; subst hv; trivial
    · exact free_strs _
    · intro v hv; rw [List.mem_singleton] at hv; subst hv; trivial
    · exact free_ints _
    · intro v hv; rw [List.mem_singleton] at hv; subst hv; rfl
    · intro v hv; rw [List.mem_singleton] at hv; subst hv; rfl) (c_levelsOf1 ps at0 hat s n l2 (rlx ps at0 (l2, c2) s n).1 c2 (rlx ps at0 (l2, c2) s n).2 hg2 hs2 rfl)) t false (l, c) (by omega) (by rw [μL_of hg]; simp only; omega)
    rw [hr] at he
    exact he)
  exact h


theorem c_maxN (xs : List Int) (h : xs ≠ []) : PCall Tryd.prog 26 [.sl .one (ints xs)] (· = [.c (.int .i64 (maxF xs))]) := by
  match xs, h with
  | x0 :: r, _ => exact c_max x0 r


set_option maxHeartbeats 1000000 in
set_option maxRecDepth 4000 in
theorem c_predsOfN (d : Dbt) (hb : bulkD d ≤ 1048576) : NCall Tryd.prog 20 [injD d] 9 (predsF d.cs []) := by
  obtain ⟨cs, op⟩ := d
  obtain ⟨hnc, hbc, hno, hbo⟩ := bulkD_bd hb
  refine NCall_of (n := 20) Tryd.func20 rfl rfl (Nat.le_of_ble_eq_true rfl) fun C hdm hT => ?_
  refine AC_seq fun K1 hK1 => ?_
  refine AC_region ?_
  refine AL_box (Lay.st [.one, .one]) (nf rfl) rfl (by first | rfl | simp [Lay.len, Lay.lens]) _ rfl rfl ?_
  refine AL_ev (Ev_assign) rfl ?_
  refine AL_nil ?_
  refine hK1 _ _ _ ?_
  refine AC_seq fun K2 hK2 => ?_
  refine AC_region ?_
  refine AL_ev (Ev_assign) rfl ?_
  refine AL_nil ?_
  refine hK2 _ _ _ ?_
  refine AC_seq fun K3 hK3 => ?_
  refine AC_seq fun K4 hK4 => ?_
  refine AC_region ?_
  first | refine AL_ev (Ev_fa_ptr rfl fa32_0 rfl rfl) rfl ?_ | refine AL_ev (Ev_fa_rp rfl fa32_0 rfl rfl) rfl ?_
  first | refine AL_ev (Ev_load_ptr rfl rfl rfl rfl rfl rfl ts30 ta30 rfl (fun _ => rfl)) rfl ?_ | refine AL_ev (Ev_load_rp rfl rfl rfl ts30 ta30 rfl (fun _ => rfl)) rfl ?_
  first | refine AL_lim (x := (Operand.tmp 7)) rfl fun hl1 => ?_ | refine AL_limB (x := (Operand.tmp 7)) rfl rfl (by first | rfl | (simp; done) | (simp; omega)) fun hl1 => ?_ | have hl1 := True.intro
  try simp only [injs_length, ints_length, strs_length, injCs_length, List.length_map] at hl1
  first | refine AL_ev (Ev_len_injCs te30 rfl) rfl ?_ | refine AL_ev (Ev_len_sl te30 rfl) rfl ?_ | refine AL_ev (Ev_len_ref te30 rfl) rfl ?_ | refine AL_ev (Ev_len_nil te30 rfl) rfl ?_ | refine AL_ev (Ev_len_c te30 rfl) rfl ?_
  refine AL_ev (Ev_move) rfl ?_
  refine AL_nil ?_
  refine hK4 _ _ _ ?_
  refine AC_block ?_
  refine AC_loopS [7, 8] (Nat × List ByteArray) (fun ⟨j, out⟩ => [(9, i64 j), (3, .ref .one 0 0 (strs out).length)]) (fun ⟨j, out⟩ => [some ⟨9, .one, (strs out).map V.d⟩]) (fun st => cs.length - st.1) (fun ⟨j, out⟩ => j ≤ cs.length ∧ (predsF cs [] = predsF (cs.drop j) out ∧ out.length ≤ j)) ((0, [])) ?_ ?_ ?_
  · skip
    refine Wk.then (Wk_nil_slot 3 9 .one rfl 1 rfl ?_)
    exact enterS [some 1] rfl rfl (BxTo_some rfl rfl rfl rfl (by first | exact .nil | exact VwL_dd (by first | rfl | simp) | exact VwL_app (by first | rfl | simp) | exact VwL_of (by first | rfl | simp)) BxTo_nil) (SlTo_cons (by first | exact .rd .d | exact Vw_int (by first | rfl | assumption | omega | (simp; done) | (simp; omega)) | exact Vw_c (by first | rfl | (simp; done) | simp_all) | exact .any) (SlTo_cons (Vw_refe rfl (by first | rfl | simp)) (SlTo_cons (by first | exact .rd .d | exact .any) (SlTo_cons (by first | exact .rd .d | exact .any) SlTo_nil))))
  · skip
    exact ⟨Nat.zero_le _, by simp, by simp⟩
  rintro ⟨j, out⟩ ⟨hj, ⟨hI, ho⟩⟩
  show AC _ _ _ _ _ (FS [7, 8] _ [(9, i64 j), (3, .ref .one 0 0 (strs out).length)]) [some ⟨9, .one, (strs out).map V.d⟩]
  refine AC_seq fun K5 hK5 => ?_
  refine AC_region ?_
  refine AL_ev (Ev_lss rfl rfl) rfl ?_
  refine AL_nil ?_
  refine hK5 _ _ _ ?_
  refine AC_seq fun K6 hK6 => ?_
  refine AC_cond rfl (fun hc1 => ?_) (fun hc1 => ?_)
  · skip
    have hlt : j < cs.length := by simpa using hc1
    obtain ⟨u, hu⟩ : ∃ x, cs[j]? = some x := ⟨_, List.getElem?_eq_getElem hlt⟩
    have hu2 := injCs_get hu
    have hdr := drop_get hu
    obtain ⟨hbu, _, _⟩ := bulkCs_bd (List.mem_of_getElem? hu) hbc
    rw [hdr, predsF] at hI
    have hol := onceL_len out (predS u.h)
    refine AC_skip ?_
    refine hK6 _ _ _ ?_
    refine AC_seq fun K7 hK7 => ?_
    refine AC_block ?_
    refine AC_seq fun K8 hK8 => ?_
    refine AC_region ?_
    first | refine AL_ev (Ev_ix_sl rfl rfl te30 ts50 (by omega) (by assumption)) rfl ?_ | refine AL_ev (Ev_ix_ref rfl rfl te30 ts50 (by omega) (by first | omega | (simp; omega))) rfl ?_
    first | refine AL_ev (Ev_load_ptr rfl rfl rfl rfl rfl rfl ts50 ta50 (by first | rfl | simp) (by intro h; cases h)) rfl ?_ | refine AL_ev (Ev_load_rp rfl rfl rfl ts50 ta50 (by first | rfl | simp) (by intro h; cases h)) rfl ?_
    refine AL_alloc zo50 _ rfl rfl ?_
    first | refine AL_store rfl (nf rfl) rfl rfl rfl rfl rfl rfl (by first | rfl | simp [Lay.len, Lay.lens]) ts50 rfl rfl ?_ | refine AL_store rfl (nf rfl) rfl rfl rfl hes rfl rfl (by first | rfl | simp [Lay.len, Lay.lens]) ts50 rfl rfl ?_
    refine AL_nil ?_
    refine hK8 _ _ _ ?_
    refine AC_region ?_
    refine AL_ev (Ev_move) rfl ?_
    first | refine AL_ev (Ev_fa_ptr rfl fa50_0 rfl rfl) rfl ?_ | refine AL_ev (Ev_fa_rp rfl fa50_0 rfl rfl) rfl ?_
    first | refine AL_ev (Ev_load_ptr rfl rfl rfl rfl rfl rfl ts48 ta48 (by first | rfl | simp) (by intro h; cases h)) rfl ?_ | refine AL_ev (Ev_load_rp rfl rfl rfl ts48 ta48 (by first | rfl | simp) (by intro h; cases h)) rfl ?_
    refine AL_fcall0 hT rfl cl23 (c_predOf u.h (by omega)) rfl rfl ?_
    first | refine AL_bcall hT _ _ [] rfl cl38 rfl rfl rfl rfl (c_once out (predS u.h) (by omega)) rfl rfl (by first | rfl | (simp; done) | (simp; omega)) _ rfl rfl ?_ | refine AL_bcalln hT [] rfl cl38 rfl rfl rfl rfl (c_once out (predS u.h) (by omega)) _ rfl rfl ?_
    refine AL_ev (Ev_assign) rfl ?_
    refine AL_nil ?_
    refine hK7 _ _ _ ?_
    refine AC_region ?_
    first | refine AL_ev (Ev_add rfl rfl _ (wrap_id (by first | omega | (simp; omega)) (by first | omega | (simp; omega)))) rfl ?_ | refine AL_ev (Ev_add rfl rfl _ rfl) rfl ?_
    refine AL_ev (Ev_move) rfl ?_
    refine AL_nil ?_
    refine closeS (j + 1, onceL out (predS u.h)) [some 2] rfl rfl (by show cs.length - (j + 1) < cs.length - j; omega) ⟨hlt, ?_⟩ (BxTo_some rfl rfl rfl rfl (by first | exact VwL_app (by first | rfl | simp [ints, strs] | simp [ints, strs, injs_map]) | exact VwL_dd (by first | rfl | simp [ints, strs] | simp [ints, strs, injs_map]) | exact VwL_of (by first | rfl | simp [ints, strs] | simp [ints, strs, injs_map])) BxTo_nil) (SlTo_cons (by first | exact .rd .d | exact Vw_int (by first | rfl | assumption | omega | (simp; done) | (simp; omega)) | exact Vw_c (by first | rfl | (simp; done) | simp_all) | exact .any) (SlTo_cons (Vw_refe rfl (by first | rfl | simp | (simp; omega))) (SlTo_cons (by first | exact .rd .d | exact .any) (SlTo_cons (by first | exact .rd .d | exact .any) SlTo_nil))))
    exact ⟨hI, by omega⟩
  · skip
    have hj2 : j = cs.length := by
      have : ¬ j < cs.length := by simpa using hc1
      omega
    subst hj2
    rw [List.drop_length] at hI
    refine AC_exit ?_
    refine hK3 _ _ _ ?_
    refine AC_seq fun K9 hK9 => ?_
    refine AC_region ?_
    refine AL_ev (Ev_move) rfl ?_
    refine AL_ev (Ev_assign) rfl ?_
    refine AL_nil ?_
    refine hK9 _ _ _ ?_
    refine AC_ret ?_
    rw [predsF] at hI
    rw [hI]
    exact retn_ok hdm (.tmp rfl rfl .nil) rfl (by rfl) (by simp)

set_option maxHeartbeats 4000000 in
set_option maxRecDepth 4000 in
theorem c_implLevelsOf (d : Dbt) (hb : bulkD d ≤ 1048576) : OTCall Tryd.prog 7 [injD d] 3 .one (ints (levOf d).1) [.bool (levOf d).2] := by
  obtain ⟨cs, op⟩ := d
  have hw := szB_bulk cs
  obtain ⟨hnc, hbc, hno, hbo⟩ := bulkD_bd hb
  obtain ⟨ps, hps⟩ : ∃ ps, ps = predsF cs [] := ⟨_, rfl⟩
  have hpl := predsF_len cs []
  have hpn : ps.Nodup := hps ▸ predsF_nodup cs List.nodup_nil
  have hpm : ∀ c ∈ cs, predS c.h ∈ ps := fun c hc => hps ▸ predsF_mem cs hc
  rw [← hps] at hpl
  simp only [List.length_nil, Nat.zero_add] at hpl
  refine OTCall_of (n := 47) Tryd.func7 rfl rfl (Nat.le_of_ble_eq_true rfl) fun C0 hdm hT0 => ?_
  have hX0 := CExt.refl C0
  have hT := hT0
  refine AC_seq fun K1 hK1 => ?_
  refine AC_region ?_
  refine AL_box (Lay.st [.one, .one]) (nf rfl) rfl (by first | rfl | simp [Lay.len, Lay.lens]) _ rfl rfl ?_
  refine AL_ev (Ev_assign) rfl ?_
  refine AL_ev (Ev_assign) rfl ?_
  refine AL_nil ?_
  refine hK1 _ _ _ ?_
  refine AC_seq fun K2 hK2 => ?_
  refine AC_region ?_
  first | refine AL_ev (Ev_load_ptr rfl rfl rfl rfl rfl rfl ts32 ta32 (by first | rfl | simp) (by intro h; cases h)) rfl ?_ | refine AL_ev (Ev_load_rp rfl rfl rfl ts32 ta32 (by first | rfl | simp) (by intro h; cases h)) rfl ?_
  refine AL_nlcall hT rfl cl20 (hps ▸ c_predsOfN ⟨cs, op⟩ hb) rfl _ rfl rfl ?_
  refine AL_alloc zo23 _ rfl rfl ?_
  first | refine AL_store rfl (nf rfl) rfl rfl rfl rfl rfl rfl (by first | rfl | simp [Lay.len, Lay.lens]) ts23 rfl rfl ?_ | refine AL_store rfl (nf rfl) rfl rfl rfl hes rfl rfl (by first | rfl | simp [Lay.len, Lay.lens]) ts23 rfl rfl ?_
  refine AL_nil ?_
  refine hK2 _ _ _ ?_
  refine AC_seq fun K3 hK3 => ?_
  refine AC_region ?_
  first | refine AL_ev (Ev_load_ptr rfl rfl rfl rfl rfl rfl ts23 ta23 rfl (fun _ => rfl)) rfl ?_ | refine AL_ev (Ev_load_rp rfl rfl rfl ts23 ta23 rfl (fun _ => rfl)) rfl ?_
  first | refine AL_lim (x := (Operand.tmp 13)) rfl fun hl1 => ?_ | refine AL_limB (x := (Operand.tmp 13)) rfl rfl (by first | rfl | (simp; done) | (simp; omega)) fun hl1 => ?_ | have hl1 := True.intro
  try simp only [injs_length, ints_length, strs_length, injCs_length, List.length_map] at hl1
  first | refine AL_ev (Ev_len_strs te23 rfl) rfl ?_ | refine AL_ev (Ev_len_sl te23 rfl) rfl ?_ | refine AL_ev (Ev_len_ref te23 rfl) rfl ?_ | refine AL_ev (Ev_len_nil te23 rfl) rfl ?_ | refine AL_ev (Ev_len_c te23 rfl) rfl ?_
  refine AL_makeSlice .one te27 ts3 zo3 tb3 rfl (by simp only [lim]; first | omega | (simp; done) | (simp; omega)) (by first | omega | (simp; omega)) (by decide) _ rfl rfl ?_
  refine AL_alloc zo27 _ rfl rfl ?_
  first | refine AL_store rfl (nf rfl) rfl rfl rfl rfl rfl rfl (by first | rfl | simp [Lay.len, Lay.lens]) ts27 rfl rfl ?_ | refine AL_store rfl (nf rfl) rfl rfl rfl hes rfl rfl (by first | rfl | simp [Lay.len, Lay.lens]) ts27 rfl rfl ?_
  refine AL_nil ?_
  refine hK3 _ _ _ ?_
  refine AC_seq fun K4 hK4 => ?_
  refine AC_region ?_
  refine AL_ev (Ev_assign) rfl ?_
  refine AL_nil ?_
  refine hK4 _ _ _ ?_
  refine AC_block ?_
  refine AC_loopS [] (Int × List Int) (fun st => [(1, .d (.rp LD (injD ⟨cs, op⟩) [])), (4, .ptr .one 1 0 []), (5, .ptr .one 3 0 []), (6, i64 st.1)]) (fun st => [some ⟨9, .one, (strs ps).map V.d⟩, some ⟨23, .one, [.ref .one 0 0 ps.length]⟩, some ⟨3, .one, (ints st.2).map V.d⟩, some ⟨27, .one, [.ref .one 2 0 ps.length]⟩]) (fun st => mL ps.length true st.2) (fun st => BelL ps (· ∈ edI ps cs) st.2 ∧ bdL ps.length ps.length st.2) ((0, List.replicate ps.length 0)) ?_ ?_ ?_
  · skip
    exact enterS [some 2, some 3, some 4, some 5] rfl rfl (BxTo_some rfl rfl rfl rfl (VwL_of (by first | rfl | simp)) (BxTo_some rfl rfl rfl rfl (.cons (Vw_refe rfl (by first | rfl | simp)) .nil) (BxTo_some rfl rfl rfl rfl (VwL_of (by simp [ints])) (BxTo_some rfl rfl rfl rfl (.cons (Vw_refe rfl (by first | rfl | simp)) .nil) BxTo_nil)))) (SlTo_cons (by first | exact .rd (.ptr (srcFree rfl) rfl rfl rfl .d) | exact .rd .d) (SlTo_cons (.ptr rfl) (SlTo_cons (.ptr rfl) (SlTo_cons (Vw_int rfl) SlTo_nil))))
  · skip
    exact ⟨BelL_zero rfl, bdL_zero _⟩
  rintro ⟨q, l⟩ ⟨hB, hbd⟩
  simp only at hB hbd
  show AC _ _ _ _ _ (FS [] _ [(1, .d (.rp LD (injD ⟨cs, op⟩) [])), (4, .ptr .one 1 0 []), (5, .ptr .one 3 0 []), (6, i64 q)]) [some ⟨9, .one, (strs ps).map V.d⟩, some ⟨23, .one, [.ref .one 0 0 ps.length]⟩, some ⟨3, .one, (ints l).map V.d⟩, some ⟨27, .one, [.ref .one 2 0 ps.length]⟩]
  refine AC_seq fun K5 hK5 => ?_
  refine AC_block ?_
  refine AC_seq fun K6 hK6 => ?_
  refine AC_region ?_
  refine AL_alloc zo4 _ rfl rfl ?_
  first | refine AL_store rfl (nf rfl) rfl rfl rfl rfl rfl rfl (by first | rfl | simp [Lay.len, Lay.lens]) ts4 rfl rfl ?_ | refine AL_store rfl (nf rfl) rfl rfl rfl hes rfl rfl (by first | rfl | simp [Lay.len, Lay.lens]) ts4 rfl rfl ?_
  refine AL_nil ?_
  refine hK6 _ _ _ ?_
  refine AC_seq fun K7 hK7 => ?_
  refine AC_seq fun K8 hK8 => ?_
  refine AC_region ?_
  first | refine AL_ev (Ev_fa_ptr rfl fa32_0 rfl rfl) rfl ?_ | refine AL_ev (Ev_fa_rp rfl fa32_0 rfl rfl) rfl ?_
  first | refine AL_ev (Ev_load_ptr rfl rfl rfl rfl rfl rfl ts30 ta30 rfl (fun _ => rfl)) rfl ?_ | refine AL_ev (Ev_load_rp rfl rfl rfl ts30 ta30 rfl (fun _ => rfl)) rfl ?_
  first | refine AL_lim (x := (Operand.tmp 19)) rfl fun hl2 => ?_ | refine AL_limB (x := (Operand.tmp 19)) rfl rfl (by first | rfl | (simp; done) | (simp; omega)) fun hl2 => ?_ | have hl2 := True.intro
  try simp only [injs_length, ints_length, strs_length, injCs_length, List.length_map] at hl2
  first | refine AL_ev (Ev_len_injCs te30 rfl) rfl ?_ | refine AL_ev (Ev_len_sl te30 rfl) rfl ?_ | refine AL_ev (Ev_len_ref te30 rfl) rfl ?_ | refine AL_ev (Ev_len_nil te30 rfl) rfl ?_ | refine AL_ev (Ev_len_c te30 rfl) rfl ?_
  refine AL_ev (Ev_move) rfl ?_
  refine AL_nil ?_
  refine hK8 _ _ _ ?_
  refine AC_block ?_
  refine AC_loopS [] (Nat × List Int × Bool) (fun st => [(1, .d (.rp LD (injD ⟨cs, op⟩) [])), (4, .ptr .one 1 0 []), (5, .ptr .one 3 0 []), (7, .ptr .one 4 0 []), (19, .d (.sl LC (injCs cs))), (20, i64 (cs.length : Int)), (21, i64 ((st.1 : Nat) : Int)), (6, i64 q)]) (fun st => [some ⟨9, .one, (strs ps).map V.d⟩, some ⟨23, .one, [.ref .one 0 0 ps.length]⟩, some ⟨3, .one, (ints st.2.1).map V.d⟩, some ⟨27, .one, [.ref .one 2 0 ps.length]⟩, some ⟨4, .one, [bl st.2.2]⟩]) (fun st => cs.length - st.1) (fun st => st.1 ≤ cs.length ∧ impL ps cs (l, false) = impL ps (cs.drop st.1) (st.2.1, st.2.2) ∧ bdL ps.length (ps.length + szB cs - szB (cs.drop st.1) : Int) st.2.1) ((0, l, false)) ?_ ?_ ?_
  · skip
    exact enterS [some 0, some 1, some 2, some 3, some 4] rfl rfl (BxTo_some rfl rfl rfl rfl (VwL_of (by first | rfl | simp)) (BxTo_some rfl rfl rfl rfl (.cons (Vw_refe rfl (by first | rfl | simp)) .nil) (BxTo_some rfl rfl rfl rfl (VwL_of (by rfl)) (BxTo_some rfl rfl rfl rfl (.cons (Vw_refe rfl (by first | rfl | simp)) .nil) (BxTo_some rfl rfl rfl rfl (.cons (.rd .d) .nil) BxTo_nil))))) (SlTo_cons (by first | exact .rd (.ptr (srcFree rfl) rfl rfl rfl .d) | exact .rd .d) (SlTo_cons (.ptr rfl) (SlTo_cons (.ptr rfl) (SlTo_cons (.ptr rfl) (SlTo_cons (.rd .d) (SlTo_cons (.rd .d) (SlTo_cons (Vw_int rfl) (SlTo_cons (.rd .d) SlTo_nil))))))))
  · skip
    exact ⟨Nat.zero_le _, rfl, by simpa using hbd⟩
  rintro ⟨j, l2, c2⟩ ⟨hj, hI, hbd2⟩
  simp only at hj hI hbd2
  show AC _ _ _ _ _ (FS [] _ [(1, .d (.rp LD (injD ⟨cs, op⟩) [])), (4, .ptr .one 1 0 []), (5, .ptr .one 3 0 []), (7, .ptr .one 4 0 []), (19, .d (.sl LC (injCs cs))), (20, i64 (cs.length : Int)), (21, i64 ((j : Nat) : Int)), (6, i64 q)]) [some ⟨9, .one, (strs ps).map V.d⟩, some ⟨23, .one, [.ref .one 0 0 ps.length]⟩, some ⟨3, .one, (ints l2).map V.d⟩, some ⟨27, .one, [.ref .one 2 0 ps.length]⟩, some ⟨4, .one, [bl c2]⟩]
  refine AC_seq fun K9 hK9 => ?_
  refine AC_region ?_
  refine AL_ev (Ev_lss rfl rfl) rfl ?_
  refine AL_nil ?_
  refine hK9 _ _ _ ?_
  refine AC_seq fun K10 hK10 => ?_
  refine AC_cond rfl (fun hc1 => ?_) (fun hc1 => ?_)
  · skip
    have hlt : j < cs.length := by simpa using hc1
    obtain ⟨u, hu⟩ : ∃ x, cs[j]? = some x := ⟨_, List.getElem?_eq_getElem hlt⟩
    have hu2 := injCs_get hu
    have hdr := drop_get hu
    obtain ⟨hbu, hbv, _⟩ := bulkCs_bd (List.mem_of_getElem? hu) hbc
    have hsd := szB_drop cs j
    rw [hdr] at hI hbd2 hsd
    rw [impL] at hI
    rw [szB] at hbd2 hsd
    refine AC_skip ?_
    refine hK10 _ _ _ ?_
    refine AC_seq fun K11 hK11 => ?_
    refine AC_block ?_
    refine AC_seq fun K12 hK12 => ?_
    refine AC_region ?_
    first | refine AL_ev (Ev_ix_sl rfl rfl te30 ts50 (by omega) (by assumption)) rfl ?_ | refine AL_ev (Ev_ix_ref rfl rfl te30 ts50 (by omega) (by first | omega | (simp; omega))) rfl ?_
    first | refine AL_ev (Ev_load_ptr rfl rfl rfl rfl rfl rfl ts50 ta50 (by first | rfl | simp) (by intro h; cases h)) rfl ?_ | refine AL_ev (Ev_load_rp rfl rfl rfl ts50 ta50 (by first | rfl | simp) (by intro h; cases h)) rfl ?_
    refine AL_alloc zo50 _ rfl rfl ?_
    first | refine AL_store rfl (nf rfl) rfl rfl rfl rfl rfl rfl (by first | rfl | simp [Lay.len, Lay.lens]) ts50 rfl rfl ?_ | refine AL_store rfl (nf rfl) rfl rfl rfl hes rfl rfl (by first | rfl | simp [Lay.len, Lay.lens]) ts50 rfl rfl ?_
    refine AL_nil ?_
    refine hK12 _ _ _ ?_
    refine AC_seq fun K13 hK13 => ?_
    refine AC_seq fun K14 hK14 => ?_
    refine AC_region ?_
    first | refine AL_ev (Ev_fa_ptr rfl fa50_1 rfl rfl) rfl ?_ | refine AL_ev (Ev_fa_rp rfl fa50_1 rfl rfl) rfl ?_
    first | refine AL_ev (Ev_load_ptr rfl rfl rfl rfl rfl rfl ts48 ta48 (by first | rfl | simp) (by intro h; cases h)) rfl ?_ | refine AL_ev (Ev_load_rp rfl rfl rfl ts48 ta48 (by first | rfl | simp) (by intro h; cases h)) rfl ?_
    refine AL_fcall0 hT rfl cl21 (c_termOk u.b (by omega)) rfl rfl ?_
    refine AL_ev (Ev_not rfl) rfl ?_
    refine AL_nil ?_
    refine hK14 _ _ _ ?_
    refine AC_cond rfl (fun hc2 => ?_) (fun hc2 => ?_)
    · skip
      have hok : okT u.b = false := by simpa using hc2
      have hnx : j + 1 ≤ cs.length ∧ impL ps cs (l, false) = impL ps (cs.drop (j + 1)) (l2, c2) ∧ bdL ps.length (ps.length + szB cs - szB (cs.drop (j + 1)) : Int) l2 := ⟨hlt, by rw [hI, impCl, if_neg (by rw [hok]; decide)], hbd2.mono (by push_cast; omega)⟩
      refine AC_exit ?_
      refine hK11 _ _ _ ?_
      refine AC_region ?_
      first | refine AL_ev (Ev_add rfl rfl _ (wrap_id (by first | omega | (simp; omega)) (by first | omega | (simp; omega)))) rfl ?_ | refine AL_ev (Ev_add rfl rfl _ rfl) rfl ?_
      refine AL_ev (Ev_move) rfl ?_
      refine AL_nil ?_
      first
        | refine closeS (j + 1, l2, c2) [some 0, some 1, some 2, some 3, some 4] rfl rfl (by show cs.length - (j + 1) < cs.length - j; omega) hnx (BxTo_some rfl rfl rfl rfl (VwL_of (by first | rfl | simp)) (BxTo_some rfl rfl rfl rfl (.cons (Vw_refe rfl (by first | rfl | simp)) .nil) (BxTo_some rfl rfl rfl rfl (VwL_of (by rfl)) (BxTo_some rfl rfl rfl rfl (.cons (Vw_refe rfl (by first | rfl | simp)) .nil) (BxTo_some rfl rfl rfl rfl (.cons (.rd .d) .nil) BxTo_nil))))) (SlTo_cons (by first | exact .rd (.ptr (srcFree rfl) rfl rfl rfl .d) | exact .rd .d) (SlTo_cons (.ptr rfl) (SlTo_cons (.ptr rfl) (SlTo_cons (.ptr rfl) (SlTo_cons (.rd .d) (SlTo_cons (.rd .d) (SlTo_cons (Vw_int (by push_cast; rfl)) (SlTo_cons (.rd .d) SlTo_nil))))))))
        | refine closeS (j + 1, l3, c3) [some 0, some 1, some 2, some 3, some 4] rfl rfl (by show cs.length - (j + 1) < cs.length - j; omega) hnx (BxTo_some rfl rfl rfl rfl (VwL_of (by first | rfl | simp)) (BxTo_some rfl rfl rfl rfl (.cons (Vw_refe rfl (by first | rfl | simp)) .nil) (BxTo_some rfl rfl rfl rfl (VwL_of (by rfl)) (BxTo_some rfl rfl rfl rfl (.cons (Vw_refe rfl (by first | rfl | simp)) .nil) (BxTo_some rfl rfl rfl rfl (.cons (.rd .d) .nil) BxTo_nil))))) (SlTo_cons (by first | exact .rd (.ptr (srcFree rfl) rfl rfl rfl .d) | exact .rd .d) (SlTo_cons (.ptr rfl) (SlTo_cons (.ptr rfl) (SlTo_cons (.ptr rfl) (SlTo_cons (.rd .d) (SlTo_cons (.rd .d) (SlTo_cons (Vw_int (by push_cast; rfl)) (SlTo_cons (.rd .d) SlTo_nil))))))))
    · skip
      have hok : okT u.b = true := by simpa using hc2
      obtain ⟨hat, hat2, _⟩ := idxP_mem hpn (hpm u (List.mem_of_getElem? hu))
      obtain ⟨at0, hat0⟩ : ∃ at0 : Nat, at0 = (idxP ps (predS u.h)).toNat := ⟨_, rfl⟩
      rw [← hat0] at hat
      have hat3 : idxS ps (predS u.h) 0 = ((at0 : Nat) : Int) := by unfold idxP at hat0 hat2; omega
      obtain ⟨⟨l3, c3⟩, hre⟩ : ∃ r, eachF (rlx ps at0) u.b false (l2, c2) = r := ⟨_, rfl⟩
      have hcl : impCl ps u (l2, c2) = (l3, c3) := by rw [impCl, if_pos hok, ← hat0]; exact hre
      have hlen2 := hbd2.1
      have hb3 := impCl_bdL (ps := ps) (c := u) (a := (l2, c2)) hbd2 (by omega)
      rw [hcl] at hb3
      have hnx : j + 1 ≤ cs.length ∧ impL ps cs (l, false) = impL ps (cs.drop (j + 1)) (l3, c3) ∧ bdL ps.length (ps.length + szB cs - szB (cs.drop (j + 1)) : Int) l3 := ⟨hlt, by rw [hI, hcl], hb3.mono (by push_cast; omega)⟩
      refine AC_skip ?_
      refine hK13 _ _ _ ?_
      refine AC_seq fun K15 hK15 => ?_
      refine AC_draw hT follows [0, 1, 2, 3, 4, 5, 6] (by kernel_rfl) ?_
      first | refine DT_ev rfl (EA_load_ptr rfl rfl rfl rfl rfl rfl ts23 ta23 rfl (fun _ => rfl)) rfl ?_ | refine DT_ev rfl (EA_load_rp rfl rfl rfl ts23 ta23 rfl (fun _ => rfl)) rfl ?_
      first | refine DT_ev rfl (EA_fa_ptr rfl fa50_0 rfl rfl) rfl ?_ | refine DT_ev rfl (EA_fa_rp rfl fa50_0 rfl rfl) rfl ?_
      first | refine DT_ev rfl (EA_load_ptr rfl rfl rfl rfl rfl rfl ts48 ta48 (by first | rfl | simp) (by intro h; cases h)) rfl ?_ | refine DT_ev rfl (EA_load_rp rfl rfl rfl ts48 ta48 (by first | rfl | simp) (by intro h; cases h)) rfl ?_
      refine DT_fcall0 rfl rfl cl23 (c_predOf u.h (by omega)) rfl rfl ?_
      refine DT_qcallL rfl rfl cl22 (c_indexS ps (predS u.h)) (fun C2 => (.cons (.rd (.ref trivial rfl rfl (by first | (simp; done) | (simp; omega)) (ReadsL_d _))) (.cons (.rd .d) .nil))) rfl ?_
      refine DT_alloc rfl tz3 rfl rfl (by kernel_rfl) fun Ca1 ba1 hxa1 hba1 hla1 => ?_
      have hTa1 := hT
      have hT := hT.ext hxa1
      refine DT_zstore hxa1 rfl (by kernel_rfl) rfl rfl hba1 hla1 ts3 rfl _ rfl ?_
      have hT := hTa1
      refine hK15 _ _ _ ?_
      refine AC_region ?_
      first | refine AL_ev (Ev_fa_ptr rfl fa50_1 rfl rfl) rfl ?_ | refine AL_ev (Ev_fa_rp rfl fa50_1 rfl rfl) rfl ?_
      first | refine AL_ev (Ev_load_ptr rfl rfl rfl rfl rfl rfl ts48 ta48 (by first | rfl | simp) (by intro h; cases h)) rfl ?_ | refine AL_ev (Ev_load_rp rfl rfl rfl ts48 ta48 (by first | rfl | simp) (by intro h; cases h)) rfl ?_
      first | refine AL_ev (Ev_func rfl rfl) rfl ?_ | refine AL_ev (Ev_funcV rfl rfl) rfl ?_
      refine AL_hstay hT [1, 0, 3, 2, 6, 4] [⟨23, .one, [.ref .one 0 0 ps.length]⟩, ⟨9, .one, (strs ps).map V.d⟩, ⟨27, .one, [.ref .one 2 0 ps.length]⟩, ⟨3, .one, (ints l3).map V.d⟩, ⟨3, .one, [i64 ((at0 : Nat) : Int)]⟩, ⟨4, .one, [bl c3]⟩] rfl cl24 (c_levEach ps at0 hat u.b l2 l3 c2 c3 (by omega) hbd2.good (by have := hbd2.sup (by omega); omega) hre) ?_ rfl rfl rfl ?_ rfl ?_ [.any] (.cons .any .nil) rfl ?_
      · exact .cons .d (.cons .d (.cons (.fn (.cons (.ptr rfl) (.cons (.ptr rfl) (.cons (.ptr rfl) (.cons (.ptr rfl) .nil))))) .nil))
      · exact (BxI_cons rfl rfl rfl rfl rfl (.cons (.ref rfl) .nil) (BxI_cons rfl rfl rfl rfl rfl (VxL_d _) (BxI_cons rfl rfl rfl rfl rfl (.cons (.ref rfl) .nil) (BxI_cons rfl rfl rfl rfl rfl (VxL_d _) (BxI_cons rfl rfl rfl rfl rfl (.cons (by first | exact .d | (rw [hat3]; exact .d)) .nil) (BxI_cons rfl rfl rfl rfl rfl (.cons .d .nil) BxI_nil))))))
      · exact (BxP_cons rfl rfl (.cons (.ref rfl) .nil) rfl (BxP_cons rfl rfl (VxL_d _) rfl (BxP_cons rfl rfl (.cons (.ref rfl) .nil) rfl (BxP_cons rfl rfl (VxL_d _) rfl (BxP_cons rfl rfl (.cons .d .nil) rfl (BxP_cons rfl rfl (.cons .d .nil) rfl BxP_nil))))))
      refine AL_nil ?_
      refine hK11 _ _ _ ?_
      refine AC_region ?_
      first | refine AL_ev (Ev_add rfl rfl _ (wrap_id (by first | omega | (simp; omega)) (by first | omega | (simp; omega)))) rfl ?_ | refine AL_ev (Ev_add rfl rfl _ rfl) rfl ?_
      refine AL_ev (Ev_move) rfl ?_
      refine AL_nil ?_
      first
        | refine closeS (j + 1, l2, c2) [some 0, some 1, some 2, some 3, some 4] rfl rfl (by show cs.length - (j + 1) < cs.length - j; omega) hnx (BxTo_some rfl rfl rfl rfl (VwL_of (by first | rfl | simp)) (BxTo_some rfl rfl rfl rfl (.cons (Vw_refe rfl (by first | rfl | simp)) .nil) (BxTo_some rfl rfl rfl rfl (VwL_of (by rfl)) (BxTo_some rfl rfl rfl rfl (.cons (Vw_refe rfl (by first | rfl | simp)) .nil) (BxTo_some rfl rfl rfl rfl (.cons (.rd .d) .nil) BxTo_nil))))) (SlTo_cons (by first | exact .rd (.ptr (srcFree rfl) rfl rfl rfl .d) | exact .rd .d) (SlTo_cons (.ptr rfl) (SlTo_cons (.ptr rfl) (SlTo_cons (.ptr rfl) (SlTo_cons (.rd .d) (SlTo_cons (.rd .d) (SlTo_cons (Vw_int (by push_cast; rfl)) (SlTo_cons (.rd .d) SlTo_nil))))))))
        | refine closeS (j + 1, l3, c3) [some 0, some 1, some 2, some 3, some 4] rfl rfl (by show cs.length - (j + 1) < cs.length - j; omega) hnx (BxTo_some rfl rfl rfl rfl (VwL_of (by first | rfl | simp)) (BxTo_some rfl rfl rfl rfl (.cons (Vw_refe rfl (by first | rfl | simp)) .nil) (BxTo_some rfl rfl rfl rfl (VwL_of (by rfl)) (BxTo_some rfl rfl rfl rfl (.cons (Vw_refe rfl (by first | rfl | simp)) .nil) (BxTo_some rfl rfl rfl rfl (.cons (.rd .d) .nil) BxTo_nil))))) (SlTo_cons (by first | exact .rd (.ptr (srcFree rfl) rfl rfl rfl .d) | exact .rd .d) (SlTo_cons (.ptr rfl) (SlTo_cons (.ptr rfl) (SlTo_cons (.ptr rfl) (SlTo_cons (.rd .d) (SlTo_cons (.rd .d) (SlTo_cons (Vw_int (by push_cast; rfl)) (SlTo_cons (.rd .d) SlTo_nil))))))))
  · skip
    have hj2 : j = cs.length := by have := of_decide_eq_false hc1; omega
    subst hj2
    rw [List.drop_length, impL] at hI
    have hRE := round_end hpn hpm hB hI
    refine AC_exit ?_
    refine hK7 _ _ _ ?_
    refine AC_seq fun K16 hK16 => ?_
    refine AC_seq fun K17 hK17 => ?_
    refine AC_region ?_
    first | refine AL_ev (Ev_load_ptr rfl rfl rfl rfl rfl rfl ts4 ta4 rfl (fun _ => rfl)) rfl ?_ | refine AL_ev (Ev_load_rp rfl rfl rfl ts4 ta4 rfl (fun _ => rfl)) rfl ?_
    refine AL_ev (Ev_not rfl) rfl ?_
    refine AL_nil ?_
    refine hK17 _ _ _ ?_
    refine AC_cond rfl (fun hc3 => ?_) (fun hc3 => ?_)
    · skip
      have hc2f : c2 = false := by simpa using hc3
      obtain ⟨hS, rfl⟩ := hRE.2.1 hc2f
      have hRL : levOf ⟨cs, op⟩ = (l2, true) := levOf_eq' (d := ⟨cs, op⟩) hps (.inl ⟨rfl, hS, hRE.1, fun q => (hbd.2 q).2⟩)
      have hlen2 := hbd.1
      refine AC_seq fun K18 hK18 => ?_
      refine AC_region ?_
      first | refine AL_ev (Ev_load_ptr rfl rfl rfl rfl rfl rfl ts27 ta27 rfl (fun _ => rfl)) rfl ?_ | refine AL_ev (Ev_load_rp rfl rfl rfl ts27 ta27 rfl (fun _ => rfl)) rfl ?_
      refine AL_ev (Ev_assign) rfl ?_
      refine AL_ev (Ev_assign) rfl ?_
      refine AL_nil ?_
      refine hK18 _ _ _ ?_
      refine AC_ret ?_
      exact rett_eq [.bool true] hX0 hdm (.tmp rfl rfl (.tmp rfl rfl .nil)) (.ref rfl rfl rfl (by first | (simp; done) | (simp; omega)) (OwVs_ints (by omega)) (by simp)) (congrArg (fun q => ints q.1) hRL) (congrArg (fun q => [Value.bool q.2]) hRL)
    · skip
      have hc2t : c2 = true := by simpa using hc3
      have hlts := hRE.2.2 hc2t
      have hlen2 := hbd2.1
      have hne := sum_ne hlts hB.nn
      refine AC_skip ?_
      refine hK16 _ _ _ ?_
      refine AC_seq fun K19 hK19 => ?_
      refine AC_draw hT follows [0, 1, 2, 3, 4] (by kernel_rfl) ?_
      first | refine DT_ev rfl (EA_load_ptr rfl rfl rfl rfl rfl rfl ts27 ta27 rfl (fun _ => rfl)) rfl ?_ | refine DT_ev rfl (EA_load_rp rfl rfl rfl ts27 ta27 rfl (fun _ => rfl)) rfl ?_
      refine DT_qcallL rfl rfl cl26 (c_maxN l2 hne) (fun C2 => (.cons (.rd (.ref trivial rfl rfl (by first | (simp; done) | (simp; omega)) (ReadsL_d _))) .nil)) rfl ?_
      first | refine DT_ev rfl (EA_load_ptr rfl rfl rfl rfl rfl rfl ts23 ta23 rfl (fun _ => rfl)) rfl ?_ | refine DT_ev rfl (EA_load_rp rfl rfl rfl ts23 ta23 rfl (fun _ => rfl)) rfl ?_
      first | refine DT_ev rfl (EA_len_strs te23 rfl) rfl ?_ | refine DT_ev rfl (EA_len_sl te23 rfl) rfl ?_ | refine DT_ev rfl (EA_len_ref te23 rfl) rfl ?_ | refine DT_ev rfl (EA_len_nil te23 rfl) rfl ?_
      refine DT_ev rfl (EA_gtr rfl rfl) rfl ?_
      refine DTi.nil ?_
      refine hK19 _ _ _ ?_
      refine AC_cond rfl (fun hc4 => ?_) (fun hc4 => ?_)
      · skip
        have hRL : levOf ⟨cs, op⟩ = ([], false) := levOf_eq' (d := ⟨cs, op⟩) hps (.inr ⟨rfl, l2, hRE.1, by
          obtain ⟨i, _, h⟩ := (maxF_ge (B := ps.length) hne).1 (of_decide_eq_true hc4)
          exact ⟨i, h⟩⟩)
        refine AC_seq fun K20 hK20 => ?_
        refine AC_region ?_
        refine AL_ev (Ev_assign) rfl ?_
        refine AL_ev (Ev_assign) rfl ?_
        refine AL_nil ?_
        refine hK20 _ _ _ ?_
        refine AC_ret ?_
        exact rett_eq [.bool false] hX0 hdm (.tmp rfl rfl (.tmp rfl rfl .nil)) .nil (congrArg (fun q => ints q.1) hRL) (congrArg (fun q => [Value.bool q.2]) hRL)
      · skip
        have hbd3 : bdL ps.length ps.length l2 := ⟨hlen2, fun q => ⟨(hbd2.2 q).1, by
          by_cases hq : (ps.length : Int) < l2.getD q 0
          · have hql : q < l2.length := by
              by_cases h : q < l2.length
              · exact h
              · rw [List.getD_eq_getElem?_getD, List.getElem?_eq_none (by omega)] at hq
                simp only [Option.getD_none] at hq
                omega
            exact absurd ((maxF_ge hne).2 ⟨q, hql, hq⟩) (of_decide_eq_false hc4)
          · omega⟩⟩
        have hml := mL_lt (ch := true) (fun _ => hlts) hbd3
        refine AC_skip ?_
        refine hK5 _ _ _ ?_
        refine AC_region ?_
        refine AL_ev (Ev_move) rfl ?_
        first | refine AL_ev (Ev_add rfl rfl _ (wrap_id (by first | omega | (simp; omega)) (by first | omega | (simp; omega)))) rfl ?_ | refine AL_ev (Ev_add rfl rfl _ rfl) rfl ?_
        refine AL_ev (Ev_assign) rfl ?_
        refine AL_nil ?_
        refine closeS (IntKind.i64.wrap (q + 1), l2) [some 0, some 1, some 2, some 3] rfl rfl (by show mL ps.length true l2 < mL ps.length true l; exact hml) ⟨hRE.1, hbd3⟩ (BxTo_some rfl rfl rfl rfl (VwL_of (by first | rfl | simp)) (BxTo_some rfl rfl rfl rfl (.cons (Vw_refe rfl (by first | rfl | simp)) .nil) (BxTo_some rfl rfl rfl rfl (VwL_of (by rfl)) (BxTo_some rfl rfl rfl rfl (.cons (Vw_refe rfl (by first | rfl | simp)) .nil) BxTo_nil)))) (SlTo_cons (by first | exact .rd (.ptr (srcFree rfl) rfl rfl rfl .d) | exact .rd .d) (SlTo_cons (.ptr rfl) (SlTo_cons (.ptr rfl) (SlTo_cons (Vw_int rfl) SlTo_nil))))

set_option maxHeartbeats 4000000 in
set_option maxRecDepth 4000 in
theorem c_lawLevelsOf (d : Dbt) (hb : bulkD d ≤ 1048576) : PCall Tryd.prog 3 [injD d] (· = [.c (.bool true)]) := by
  have hcs := cntCs_nn d.cs
  have hcb := cntCs_bulk d.cs
  obtain ⟨hb1, hb2, hb3, hb4⟩ := bulkD_bd (cs := d.cs) (op := d.op) (B := 1048576) hb
  have hS : OTCall Tryd.prog 7 [injD d] 3 .one (ints ((levOf d).1)) [.bool (levOf d).2] := c_implLevelsOf d hb
  have hrl : (((levOf d).1).length : Int) ≤ 1099511627776 - 1 := by have := levOf_len d; have := (bulkD_bd (cs := d.cs) (op := d.op) hb).1; omega
  
  refine PCall_of (n := 96) Tryd.func3 rfl rfl (Nat.le_of_ble_eq_true rfl) fun C hdm hT0 => ?_
  have hT := hT0
  have hX0 := CExt.refl C
  refine AC_seq fun K1 hK1 => ?_
  refine AC_region ?_
  refine AL_box (Lay.st [.one, .one]) (nf rfl) rfl (by first | rfl | simp [Lay.len, Lay.lens]) _ rfl rfl ?_
  refine AL_ev (Ev_assign) rfl ?_
  refine AL_nil ?_
  refine hK1 _ _ _ ?_
  refine AC_seq fun K2 hK2 => ?_
  refine AC_region ?_
  refine AL_ev (Ev_assign) rfl ?_
  refine AL_nil ?_
  refine hK2 _ _ _ ?_
  refine AC_seq fun K3 hK3 => ?_
  refine AC_region ?_
  first | refine AL_ev (Ev_load_ptr rfl rfl rfl rfl rfl rfl ts25 ta25 (by first | rfl | simp) (by intro h; cases h)) rfl ?_ | refine AL_ev (Ev_load_rp rfl rfl rfl ts25 ta25 (by first | rfl | simp) (by intro h; cases h)) rfl ?_
  refine AL_ev (Ev_move) rfl ?_
  refine AL_fcall0 hT rfl cl4 (c_szDb d 1048576 hb (by omega)) rfl rfl ?_
  refine AL_ev (Ev_assign) rfl ?_
  refine AL_nil ?_
  refine hK3 _ _ _ ?_
  refine AC_seq fun K4 hK4 => ?_
  refine AC_seq fun K5 hK5 => ?_
  refine AC_region ?_
  refine AL_ev (Ev_move) rfl ?_
  refine AL_ev (Ev_lss rfl rfl) rfl ?_
  refine AL_nil ?_
  refine hK5 _ _ _ ?_
  refine AC_cond rfl (fun hc1 => ?_) (fun hc1 => ?_)
  · skip
    have : (1048576 : Int) - (bulkD d) < 0 := by simpa using hc1
    omega
  · skip
    refine AC_skip ?_
    refine hK4 _ _ _ ?_
    refine AC_seq fun K6 hK6 => ?_
    refine AC_region ?_
    first | refine AL_ev (Ev_load_ptr rfl rfl rfl rfl rfl rfl ts25 ta25 (by first | rfl | simp) (by intro h; cases h)) rfl ?_ | refine AL_ev (Ev_load_rp rfl rfl rfl ts25 ta25 (by first | rfl | simp) (by intro h; cases h)) rfl ?_
    refine AL_fcall0 hT rfl cl6 ((c_toDb d).pcall) rfl rfl ?_
    refine AL_fcall0 hT rfl cl5 (c_specLevelsOf d hb) rfl rfl ?_
    refine AL_ev (Ev_move) rfl ?_
    refine AL_ev (Ev_extract rfl rfl) rfl ?_
    refine AL_ev (Ev_extract rfl rfl) rfl ?_
    refine AL_ev (Ev_assign) rfl ?_
    refine AL_ev (Ev_assign) rfl ?_
    refine AL_nil ?_
    refine hK6 _ _ _ ?_
    refine AC_seq fun K7 hK7 => ?_
    refine AC_region ?_
    first | refine AL_ev (Ev_load_ptr rfl rfl rfl rfl rfl rfl ts25 ta25 (by first | rfl | simp) (by intro h; cases h)) rfl ?_ | refine AL_ev (Ev_load_rp rfl rfl rfl ts25 ta25 (by first | rfl | simp) (by intro h; cases h)) rfl ?_
    refine AL_ocall0 hT LD rfl cl6 (c_toDb d) rfl (injD_lenL d) (injD_agL d) rfl fun C1 cs1 K1 hg1 => ?_
    have hX1 := hX0.trans hg1.ext
    have hT := hT.ext hg1.ext
    have hx := hg1.has
    refine AL_alloc zo32 _ rfl rfl ?_
    first | refine AL_store rfl (nf rfl) rfl rfl rfl rfl rfl rfl (by first | rfl | simp [Lay.len, Lay.lens]) ts32 rfl rfl ?_ | refine AL_store rfl (nf rfl) rfl rfl rfl hes rfl rfl (by first | rfl | simp [Lay.len, Lay.lens]) ts32 rfl rfl ?_
    refine AL_nil ?_
    refine hK7 _ _ _ ?_
    refine AC_seq fun K8 hK8 => ?_
    refine AC_region ?_
    first | refine AL_ev (Ev_load_ptr rfl rfl rfl rfl rfl rfl ts32 ta32 (by first | rfl | simp) (by intro h; cases h)) rfl ?_ | refine AL_ev (Ev_load_rp rfl rfl rfl ts32 ta32 (by first | rfl | simp) (by intro h; cases h)) rfl ?_
    refine AL_qotcall hT rfl cl7 hS rfl (.cons (.raw (l := LD) (cs := cs1) hx hg1.len (injD_agL d)) .nil) rfl fun C9 A9 K9 hg9 => ?_
    have hap := hg9.apart hx
    have hx := hx.ext hg9.ext
    have hX9 := hX1.trans hg9.ext
    have hT := hT.ext hg9.ext
    have hG := hg9.has
    refine AL_ev (Ev_move) rfl ?_
    refine AL_ev (Ev_extract rfl rfl) rfl ?_
    refine AL_ev (Ev_extract rfl rfl) rfl ?_
    refine AL_ev (Ev_assign) rfl ?_
    refine AL_ev (Ev_assign) rfl ?_
    refine AL_nil ?_
    refine hK8 _ _ _ ?_
    refine AC_seq fun K9 hK9 => ?_
    refine AC_seq fun K10 hK10 => ?_
    refine AC_region ?_
    refine AL_ev (Ev_move) rfl ?_
    refine AL_ev (Ev_move) rfl ?_
    refine AL_qcall hT rfl cl8 (c_eqIntS ((levOf d).1)) (.cons (.raw (l := .one) (cs := [A9]) hG rfl rfl) (.cons (.rd .d) .nil)) rfl ?_
    refine AL_ev (Ev_not rfl) rfl ?_
    refine AL_ev (Ev_move) rfl ?_
    refine AL_bool 36 rfl (fun hg2 => ?_) (fun hg2 => ?_)
    · skip
      exact absurd hg2 (by simp)
    · skip
      refine AL_guard_t rfl rfl rfl ?_
      refine AL_ev (Ev_move) rfl ?_
      refine AL_guard_t rfl rfl rfl ?_
      refine AL_ev (Ev_move) rfl ?_
      refine AL_guard_t rfl rfl rfl ?_
      refine AL_ev (Ev_bneq tbool4 rfl rfl) rfl ?_
      refine AL_ev (Ev_pick rfl) rfl ?_
      refine AL_nil ?_
      refine hK10 _ _ _ ?_
      refine AC_cond rfl (fun hc3 => ?_) (fun hc3 => ?_)
      · skip
        exact absurd hc3 (by simp)
      · skip
        refine AC_skip ?_
        refine hK9 _ _ _ ?_
        refine AC_seq fun K11 hK11 => ?_
        refine AC_seq fun K12 hK12 => ?_
        refine AC_draw hT follows [0, 1, 2, 3, 4] (by kernel_rfl) ?_
        first | refine DT_ev rfl (EA_load_ptr rfl rfl rfl rfl rfl rfl ts32 ta32 (by first | rfl | simp) (by intro h; cases h)) rfl ?_ | refine DT_ev rfl (EA_load_rp rfl rfl rfl ts32 ta32 (by first | rfl | simp) (by intro h; cases h)) rfl ?_
        first | refine DT_ev rfl (EA_load_ptr rfl rfl rfl rfl rfl rfl ts25 ta25 (by first | rfl | simp) (by intro h; cases h)) rfl ?_ | refine DT_ev rfl (EA_load_rp rfl rfl rfl ts25 ta25 (by first | rfl | simp) (by intro h; cases h)) rfl ?_
        refine DT_fcall0 rfl rfl cl6 ((c_toDb d).pcall) rfl rfl ?_
        refine DT_qcall hT rfl rfl cl9 (c_eqDb d) (fun L2 => .cons (.raw (l := LD) (cs := cs1) hx hg1.len (injD_agL d)) (.cons (.rd .d) .nil)) rfl (by kernel_rfl) ?_
        refine DT_ev rfl (EA_not rfl) rfl ?_
        refine DTi.nil ?_
        refine hK12 _ _ _ ?_
        refine AC_cond rfl (fun hc4 => ?_) (fun hc4 => ?_)
        · skip
          exact absurd hc4 (by simp)
        · skip
          refine AC_skip ?_
          refine hK11 _ _ _ ?_
          refine AC_seq fun K13 hK13 => ?_
          refine AC_region ?_
          refine AL_ev (Ev_assign) rfl ?_
          refine AL_nil ?_
          refine hK13 _ _ _ ?_
          refine AC_seq fun K14 hK14 => ?_
          refine AC_region ?_
          first | refine AL_ev (Ev_load_ptr rfl rfl rfl rfl rfl rfl ts32 ta32 (by first | rfl | simp) (by intro h; cases h)) rfl ?_ | refine AL_ev (Ev_load_rp rfl rfl rfl ts32 ta32 (by first | rfl | simp) (by intro h; cases h)) rfl ?_
          refine AL_ev (Ev_move) rfl ?_
          refine AL_mwk LD rfl cl10 (c_markDb d 1 (by omega) (by omega)) hx hg1.len (injD_agL d) rfl rfl rfl fun C3 hk3 => ?_
          have hX3 := hX9.marked hk3 (fun b hb => .inr (hx.lo b hb))
          have hT := hT0.ext hX3
          have hG := hG.marked hk3 hap
          refine AL_ev (Ev_assign) rfl ?_
          refine AL_nil ?_
          refine hK14 _ _ _ ?_
          refine AC_seq fun K15 hK15 => ?_
          refine AC_seq fun K16 hK16 => ?_
          refine AC_region ?_
          refine AL_ev (Ev_move) rfl ?_
          refine AL_ev (Ev_lss rfl rfl) rfl ?_
          refine AL_ev (Ev_move) rfl ?_
          refine AL_bool 51 rfl (fun hg5 => ?_) (fun hg5 => ?_)
          · skip
            have : (1 : Int) + (cntCs d.cs + d.op.length) < 0 := by simpa [Int.add_assoc] using hg5
            omega
          · skip
            refine AL_guard_t rfl rfl rfl ?_
            refine AL_ev (Ev_move) rfl ?_
            refine AL_guard_t rfl rfl rfl ?_
            refine AL_ev (Ev_move) rfl ?_
            refine AL_guard_t rfl rfl rfl ?_
            refine AL_qcall hT rfl cl8 (c_eqIntS ((levOf d).1)) (.cons (.raw (l := .one) (cs := [A9]) hG rfl rfl) (.cons (.rd .d) .nil)) rfl ?_
            refine AL_guard_t rfl rfl rfl ?_
            refine AL_ev (Ev_not rfl) rfl ?_
            refine AL_ev (Ev_pick rfl) rfl ?_
            refine AL_ev (Ev_move) rfl ?_
            refine AL_bool 57 rfl (fun hg6 => ?_) (fun hg6 => ?_)
            · skip
              exact absurd hg6 (by simp)
            · skip
              refine AL_guard_t rfl rfl rfl ?_
              refine AL_ev (Ev_move) rfl ?_
              refine AL_guard_t rfl rfl rfl ?_
              refine AL_ev (Ev_move) rfl ?_
              refine AL_guard_t rfl rfl rfl ?_
              refine AL_ev (Ev_bneq tbool4 rfl rfl) rfl ?_
              refine AL_ev (Ev_pick rfl) rfl ?_
              refine AL_nil ?_
              refine hK16 _ _ _ ?_
              refine AC_cond rfl (fun hc7 => ?_) (fun hc7 => ?_)
              · skip
                exact absurd hc7 (by simp)
              · skip
                refine AC_skip ?_
                refine hK15 _ _ _ ?_
                refine AC_seq fun K17 hK17 => ?_
                refine AC_region ?_
                refine AL_ev (Ev_assign) rfl ?_
                refine AL_nil ?_
                refine hK17 _ _ _ ?_
                refine AC_seq fun K18 hK18 => ?_
                refine AC_region ?_
                refine AL_ev (Ev_move) rfl ?_
                refine AL_ev (Ev_move) rfl ?_
                refine AL_mcall .one rfl cl11 (c_markIntS ((levOf d).1) 1 (by omega) (by omega)) hG rfl rfl rfl rfl rfl fun C4 hk4 hG4 => ?_
                have hX4 := hX3.marked hk4 (fun b hb => .inr (Nat.le_trans hX1.pres.size (hG.lo b hb)))
                have hT := hT0.ext hX4
                refine AL_ev (Ev_assign) rfl ?_
                refine AL_nil ?_
                refine hK18 _ _ _ ?_
                refine AC_seq fun K19 hK19 => ?_
                refine AC_region ?_
                refine AL_ev (Ev_assign) rfl ?_
                refine AL_nil ?_
                refine hK19 _ _ _ ?_
                refine AC_seq fun K20 hK20 => ?_
                refine AC_region ?_
                refine AL_ev (Ev_move) rfl ?_
                refine AL_ev (Ev_move) rfl ?_
                refine AL_qcall hT rfl cl12 (c_heldIntS ((levOf d).1).length 1 (by omega) (by omega)) (.cons (.raw (l := .one) (cs := [A9]) hG4 rfl rfl) (.cons (.rd .d) .nil)) rfl ?_
                refine AL_ev (Ev_assign) rfl ?_
                refine AL_nil ?_
                refine hK20 _ _ _ ?_
                refine AC_seq fun K21 hK21 => ?_
                refine AC_seq fun K22 hK22 => ?_
                refine AC_region ?_
                refine AL_ev (Ev_move) rfl ?_
                refine AL_ev (Ev_lss rfl rfl) rfl ?_
                refine AL_nil ?_
                refine hK22 _ _ _ ?_
                refine AC_cond rfl (fun hc8 => ?_) (fun hc8 => ?_)
                · skip
                  have : (1 : Int) + (((levOf d).1).length : Int) < 0 := by simpa using hc8
                  omega
                · skip
                  refine AC_skip ?_
                  refine hK21 _ _ _ ?_
                  refine AC_seq fun K23 hK23 => ?_
                  refine AC_seq fun K24 hK24 => ?_
                  refine AC_region ?_
                  refine AL_ev (Ev_move) rfl ?_
                  refine AL_ev (Ev_move) rfl ?_
                  refine AL_ev (Ev_neq rfl rfl) rfl ?_
                  refine AL_nil ?_
                  refine hK24 _ _ _ ?_
                  refine AC_cond rfl (fun hc9 => ?_) (fun hc9 => ?_)
                  · skip
                    exact absurd hc9 (by simp)
                  · skip
                    refine AC_skip ?_
                    refine hK23 _ _ _ ?_
                    refine AC_seq fun K25 hK25 => ?_
                    refine AC_region ?_
                    first | refine AL_ev (Ev_load_ptr rfl rfl rfl rfl rfl rfl ts25 ta25 (by first | rfl | simp) (by intro h; cases h)) rfl ?_ | refine AL_ev (Ev_load_rp rfl rfl rfl ts25 ta25 (by first | rfl | simp) (by intro h; cases h)) rfl ?_
                    refine AL_fcall0 hT rfl cl6 ((c_toDb d).pcall) rfl rfl ?_
                    refine AL_fcall0 hT rfl cl7 (hS.pcall rfl) rfl rfl ?_
                    refine AL_ev (Ev_move) rfl ?_
                    refine AL_ev (Ev_extract rfl rfl) rfl ?_
                    refine AL_ev (Ev_extract rfl rfl) rfl ?_
                    refine AL_ev (Ev_assign) rfl ?_
                    refine AL_ev (Ev_assign) rfl ?_
                    refine AL_nil ?_
                    refine hK25 _ _ _ ?_
                    refine AC_seq fun K26 hK26 => ?_
                    refine AC_seq fun K27 hK27 => ?_
                    refine AC_region ?_
                    refine AL_ev (Ev_move) rfl ?_
                    refine AL_ev (Ev_move) rfl ?_
                    refine AL_fcall0 hT rfl cl8 (c_eqIntS ((levOf d).1)) rfl rfl ?_
                    refine AL_ev (Ev_not rfl) rfl ?_
                    refine AL_ev (Ev_move) rfl ?_
                    refine AL_bool 83 rfl (fun hg10 => ?_) (fun hg10 => ?_)
                    · skip
                      exact absurd hg10 (by simp)
                    · skip
                      refine AL_guard_t rfl rfl rfl ?_
                      refine AL_ev (Ev_move) rfl ?_
                      refine AL_guard_t rfl rfl rfl ?_
                      refine AL_ev (Ev_move) rfl ?_
                      refine AL_guard_t rfl rfl rfl ?_
                      refine AL_ev (Ev_bneq tbool4 rfl rfl) rfl ?_
                      refine AL_ev (Ev_pick rfl) rfl ?_
                      refine AL_nil ?_
                      refine hK27 _ _ _ ?_
                      refine AC_cond rfl (fun hc11 => ?_) (fun hc11 => ?_)
                      · skip
                        exact absurd hc11 (by simp)
                      · skip
                        refine AC_skip ?_
                        refine hK26 _ _ _ ?_
                        refine AC_seq fun K28 hK28 => ?_
                        refine AC_region ?_
                        refine AL_ev (Ev_assign) rfl ?_
                        refine AL_nil ?_
                        refine hK28 _ _ _ ?_
                        refine AC_seq fun K29 hK29 => ?_
                        refine AC_region ?_
                        refine AL_ev (Ev_move) rfl ?_
                        refine AL_ev (Ev_move) rfl ?_
                        refine AL_qcall hT rfl cl12 (c_heldIntS ((levOf d).1).length 1 (by omega) (by omega)) (.cons (.raw (l := .one) (cs := [A9]) hG4 rfl rfl) (.cons (.rd .d) .nil)) rfl ?_
                        refine AL_ev (Ev_assign) rfl ?_
                        refine AL_nil ?_
                        refine hK29 _ _ _ ?_
                        refine AC_seq fun K30 hK30 => ?_
                        refine AC_seq fun K31 hK31 => ?_
                        refine AC_region ?_
                        refine AL_ev (Ev_move) rfl ?_
                        refine AL_ev (Ev_lss rfl rfl) rfl ?_
                        refine AL_nil ?_
                        refine hK31 _ _ _ ?_
                        refine AC_cond rfl (fun hc12 => ?_) (fun hc12 => ?_)
                        · skip
                          have : (1 : Int) + (((levOf d).1).length : Int) < 0 := by simpa using hc12
                          omega
                        · skip
                          refine AC_skip ?_
                          refine hK30 _ _ _ ?_
                          refine AC_seq fun K32 hK32 => ?_
                          refine AC_seq fun K33 hK33 => ?_
                          refine AC_region ?_
                          refine AL_ev (Ev_move) rfl ?_
                          refine AL_ev (Ev_move) rfl ?_
                          refine AL_ev (Ev_neq rfl rfl) rfl ?_
                          refine AL_nil ?_
                          refine hK33 _ _ _ ?_
                          refine AC_cond rfl (fun hc13 => ?_) (fun hc13 => ?_)
                          · skip
                            exact absurd hc13 (by simp)
                          · skip
                            refine AC_skip ?_
                            refine hK32 _ _ _ ?_
                            refine AC_seq fun K34 hK34 => ?_
                            refine AC_region ?_
                            refine AL_ev (Ev_assign) rfl ?_
                            refine AL_nil ?_
                            refine hK34 _ _ _ ?_
                            refine AC_ret ?_
                            exact ret_okX hX4 hdm (.tmp rfl rfl .nil) (.cons .d .nil) rfl

end Go.Proofs.YtjhdkjacfclipaaDoor
