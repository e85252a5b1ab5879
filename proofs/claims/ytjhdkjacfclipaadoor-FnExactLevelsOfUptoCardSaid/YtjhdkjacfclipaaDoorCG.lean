/- Contracts of functions. -/
import Derived.Test.YtjhdkjacfclipaaDoorMt
import Derived.Test.YtjhdkjacfclipaaDoorOk
import Derived.Test.YtjhdkjacfclipaaDoorWn
import Derived.Test.YtjhdkjacfclipaaDoorEng27
import Derived.Test.YtjhdkjacfclipaaDoorEng28
import Derived.Test.YtjhdkjacfclipaaDoorProg
import Derived.KernelRfl
import Derived.Test.YtjhdkjacfclipaaDoorCA
import Derived.Test.YtjhdkjacfclipaaDoorCC
import Derived.Test.YtjhdkjacfclipaaDoorCD
import Derived.Test.YtjhdkjacfclipaaDoorCF
set_option linter.unusedVariables false
set_option linter.unusedSimpArgs false
namespace Go.Proofs.YtjhdkjacfclipaaDoor
open Go.Eng

theorem cl22 : Callable Tryd.prog 22 := Callable_of Tryd.func22 (by kernel_rfl) (by kernel_rfl)
theorem cl23 : Callable Tryd.prog 23 := Callable_of Tryd.func23 (by kernel_rfl) (by kernel_rfl)
theorem cl29 : Callable Tryd.prog 29 := Callable_of Tryd.func29 (by kernel_rfl) (by kernel_rfl)
theorem cl30 : Callable Tryd.prog 30 := Callable_of Tryd.func30 (by kernel_rfl) (by kernel_rfl)
theorem cl32 : Callable Tryd.prog 32 := Callable_of Tryd.func32 (by kernel_rfl) (by kernel_rfl)
theorem cl33 : Callable Tryd.prog 33 := Callable_of Tryd.func33 (by kernel_rfl) (by kernel_rfl)
theorem cl38 : Callable Tryd.prog 38 := Callable_of Tryd.func38 (by kernel_rfl) (by kernel_rfl)
theorem cl46 : Callable Tryd.prog 46 := Callable_of Tryd.func46 (by kernel_rfl) (by kernel_rfl)
theorem cl47 : Callable Tryd.prog 47 := Callable_of Tryd.func47 (by kernel_rfl) (by kernel_rfl)
theorem cl54 : Callable Tryd.prog 54 := Callable_of Tryd.func54 (by kernel_rfl) (by kernel_rfl)

set_option maxHeartbeats 1000000 in
set_option maxRecDepth 4000 in
theorem c_indexS (xs : List ByteArray) (s : ByteArray) : PCall Tryd.prog 22 [.sl .one (strs xs), .c (.string s)] (· = [.c (.int .i64 (idxS xs s 0))]) := by
  refine PCall_of (n := 19) Tryd.func22 rfl rfl (Nat.le_of_ble_eq_true rfl) fun C hdm hT0 => ?_
  have hT := hT0
  refine AC_seq fun K1 hK1 => ?_
  refine AC_region ?_
  refine AL_ev (Ev_assign) rfl ?_
  refine AL_nil ?_
  refine hK1 _ _ _ ?_
  refine AC_seq fun K2 hK2 => ?_
  refine AC_seq fun K3 hK3 => ?_
  refine AC_region ?_
  refine AL_ev (Ev_move) rfl ?_
  first | refine AL_lim (x := (Operand.tmp 6)) rfl fun hl1 => ?_ | refine AL_limB (x := (Operand.tmp 6)) rfl rfl (by first | rfl | (simp; done) | (simp; omega)) fun hl1 => ?_ | have hl1 := True.intro
  try simp only [injs_length, ints_length, strs_length, injCs_length, List.length_map] at hl1
  first | refine AL_ev (Ev_len_strs te23 rfl) rfl ?_ | refine AL_ev (Ev_len_sl te23 rfl) rfl ?_ | refine AL_ev (Ev_len_ref te23 rfl) rfl ?_ | refine AL_ev (Ev_len_nil te23 rfl) rfl ?_ | refine AL_ev (Ev_len_c te23 rfl) rfl ?_
  refine AL_ev (Ev_move) rfl ?_
  refine AL_nil ?_
  refine hK3 _ _ _ ?_
  refine AC_block ?_
  refine AC_loopS [0, 1, 7] (Nat) (fun j => [(8, i64 j)]) (fun j => []) (fun st => xs.length - st) (fun j => j ≤ xs.length ∧ idxS xs s 0 = idxS (xs.drop j) s j) (0) ?_ ?_ ?_
  · skip
    exact enterS [] rfl rfl BxTo_nil (SlTo_cons (by first | exact .rd .d | exact Vw_int (by first | rfl | assumption | omega | (simp; done) | (simp; omega)) | exact Vw_c (by first | rfl | (simp; done) | simp_all) | exact .any) (SlTo_cons (by first | exact .rd .d | exact .any) (SlTo_cons (by first | exact .rd .d | exact .any) (SlTo_cons (by first | exact .rd .d | exact .any) SlTo_nil))))
  · skip
    exact ⟨Nat.zero_le _, by simp⟩
  rintro j ⟨hj, hI⟩
  show AC _ _ _ _ _ (FS [0, 1, 7] _ [(8, i64 j)]) []
  refine AC_seq fun K4 hK4 => ?_
  refine AC_region ?_
  refine AL_ev (Ev_lss rfl rfl) rfl ?_
  refine AL_nil ?_
  refine hK4 _ _ _ ?_
  refine AC_seq fun K5 hK5 => ?_
  refine AC_cond rfl (fun hc1 => ?_) (fun hc1 => ?_)
  · skip
    have hlt : j < xs.length := by simpa using hc1
    obtain ⟨u, hu⟩ : ∃ x, xs[j]? = some x := ⟨_, List.getElem?_eq_getElem hlt⟩
    have hu2 := strs_get hu
    have hdr := drop_get hu
    refine AC_skip ?_
    refine hK5 _ _ _ ?_
    refine AC_seq fun K6 hK6 => ?_
    refine AC_block ?_
    refine AC_seq fun K7 hK7 => ?_
    refine AC_region ?_
    refine AL_ev (Ev_move) rfl ?_
    refine AL_ev (Ev_assign) rfl ?_
    refine AL_nil ?_
    refine hK7 _ _ _ ?_
    refine AC_seq fun K8 hK8 => ?_
    refine AC_region ?_
    refine AL_ev (Ev_move) rfl ?_
    refine AL_ev (Ev_move) rfl ?_
    refine AL_ev (Ev_move) rfl ?_
    first | refine AL_ev (Ev_ix_sl rfl rfl te23 ts9 (by omega) (by assumption)) rfl ?_ | refine AL_ev (Ev_ix_ref rfl rfl te23 ts9 (by omega) (by first | omega | (simp; omega))) rfl ?_
    first | refine AL_ev (Ev_load_ptr rfl rfl rfl rfl rfl rfl ts9 ta9 rfl (fun _ => rfl)) rfl ?_ | refine AL_ev (Ev_load_rp rfl rfl rfl ts9 ta9 rfl (fun _ => rfl)) rfl ?_
    refine AL_ev (Ev_seql rfl rfl) rfl ?_
    refine AL_nil ?_
    refine hK8 _ _ _ ?_
    refine AC_cond rfl (fun hc2 => ?_) (fun hc2 => ?_)
    · skip
      refine AC_seq fun K9 hK9 => ?_
      refine AC_region ?_
      refine AL_ev (Ev_move) rfl ?_
      refine AL_ev (Ev_assign) rfl ?_
      refine AL_nil ?_
      refine hK9 _ _ _ ?_
      refine AC_ret ?_
      refine ret_ok hdm (.tmp rfl rfl .nil) (.cons .d .nil) ?_
      try rw [hI]
      try rw [hdr]
      try simp_all [List.length_pos_iff, idxS, eq_comm]
      try omega
    · skip
      refine AC_skip ?_
      refine hK6 _ _ _ ?_
      refine AC_region ?_
      first | refine AL_ev (Ev_add rfl rfl _ (wrap_id (by first | omega | (simp; omega)) (by first | omega | (simp; omega)))) rfl ?_ | refine AL_ev (Ev_add rfl rfl _ rfl) rfl ?_
      refine AL_ev (Ev_move) rfl ?_
      refine AL_nil ?_
      refine closeS (j + 1) [] rfl rfl (by show xs.length - (j + 1) < xs.length - j; omega) ⟨hlt, ?_⟩ BxTo_nil (SlTo_cons (by first | exact .rd .d | exact Vw_int (by first | rfl | assumption | omega | (simp; done) | (simp; omega)) | exact Vw_c (by first | rfl | (simp; done) | simp_all) | exact .any) (SlTo_cons (by first | exact .rd .d | exact .any) (SlTo_cons (by first | exact .rd .d | exact .any) (SlTo_cons (by first | exact .rd .d | exact .any) SlTo_nil))))
      rw [hI]
      try rw [hdr]
      try simp_all [idxS, eq_comm]
      try omega
  · skip
    have hj2 : j = xs.length := by
      have : ¬ j < xs.length := by simpa using hc1
      omega
    subst hj2
    rw [List.drop_length] at hI
    refine AC_exit ?_
    refine hK2 _ _ _ ?_
    refine AC_seq fun K10 hK10 => ?_
    refine AC_region ?_
    refine AL_ev (Ev_assign) rfl ?_
    refine AL_nil ?_
    refine hK10 _ _ _ ?_
    refine AC_ret ?_
    refine ret_ok hdm (.tmp rfl rfl .nil) (.cons .d .nil) ?_
    try rw [hI]
    try rw [hdr]
    try simp_all [List.length_pos_iff, idxS, eq_comm]
    try omega

set_option maxHeartbeats 1000000 in
set_option maxRecDepth 4000 in
theorem c_containsS (xs : List ByteArray) (s : ByteArray) : PCall Tryd.prog 54 [.sl .one (strs xs), .c (.string s)] (· = [.c (.bool (hasS xs s))]) := by
  refine PCall_of (n := 9) Tryd.func54 rfl rfl (Nat.le_of_ble_eq_true rfl) fun C hdm hT0 => ?_
  have hT := hT0
  refine AC_seq fun K1 hK1 => ?_
  refine AC_region ?_
  refine AL_ev (Ev_assign) rfl ?_
  refine AL_nil ?_
  refine hK1 _ _ _ ?_
  refine AC_seq fun K2 hK2 => ?_
  refine AC_region ?_
  refine AL_ev (Ev_move) rfl ?_
  refine AL_ev (Ev_move) rfl ?_
  refine AL_fcall0 hT rfl cl22 (c_indexS xs s) rfl rfl ?_
  refine AL_ev (Ev_geq rfl rfl) rfl ?_
  refine AL_ev (Ev_assign) rfl ?_
  refine AL_nil ?_
  refine hK2 _ _ _ ?_
  refine AC_ret ?_
  refine ret_ok hdm (.tmp rfl rfl .nil) (.cons .d .nil) ?_
  rw [idxS_has]

set_option maxHeartbeats 1000000 in
set_option maxRecDepth 4000 in
theorem c_l23Has (xs : List ByteArray) (s : ByteArray) : PCall Tryd.prog 46 [.sl .one (strs xs), .c (.string s)] (· = [.c (.bool (hasS xs s))]) := by
  refine PCall_of (n := 18) Tryd.func46 rfl rfl (Nat.le_of_ble_eq_true rfl) fun C hdm hT0 => ?_
  have hT := hT0
  refine AC_seq fun K1 hK1 => ?_
  refine AC_region ?_
  refine AL_ev (Ev_assign) rfl ?_
  refine AL_nil ?_
  refine hK1 _ _ _ ?_
  refine AC_seq fun K2 hK2 => ?_
  refine AC_seq fun K3 hK3 => ?_
  refine AC_region ?_
  refine AL_ev (Ev_assign) rfl ?_
  refine AL_nil ?_
  refine hK3 _ _ _ ?_
  refine AC_block ?_
  refine AC_loopS [0, 1] (Nat) (fun j => [(5, i64 j)]) (fun j => []) (fun st => xs.length - st) (fun j => j ≤ xs.length ∧ hasS xs s = hasS (xs.drop j) s) (0) ?_ ?_ ?_
  · skip
    exact enterS [] rfl rfl BxTo_nil (SlTo_cons (by first | exact .rd .d | exact Vw_int (by first | rfl | assumption | omega | (simp; done) | (simp; omega)) | exact Vw_c (by first | rfl | (simp; done) | simp_all) | exact .any) (SlTo_cons (by first | exact .rd .d | exact .any) (SlTo_cons (by first | exact .rd .d | exact .any) SlTo_nil)))
  · skip
    exact ⟨Nat.zero_le _, by simp⟩
  rintro j ⟨hj, hI⟩
  show AC _ _ _ _ _ (FS [0, 1] _ [(5, i64 j)]) []
  refine AC_seq fun K4 hK4 => ?_
  refine AC_seq fun K5 hK5 => ?_
  refine AC_region ?_
  refine AL_ev (Ev_move) rfl ?_
  refine AL_ev (Ev_move) rfl ?_
  first | refine AL_lim (x := (Operand.tmp 7)) rfl fun hl1 => ?_ | refine AL_limB (x := (Operand.tmp 7)) rfl rfl (by first | rfl | (simp; done) | (simp; omega)) fun hl1 => ?_ | have hl1 := True.intro
  try simp only [injs_length, ints_length, strs_length, injCs_length, List.length_map] at hl1
  first | refine AL_ev (Ev_len_strs te23 rfl) rfl ?_ | refine AL_ev (Ev_len_sl te23 rfl) rfl ?_ | refine AL_ev (Ev_len_ref te23 rfl) rfl ?_ | refine AL_ev (Ev_len_nil te23 rfl) rfl ?_ | refine AL_ev (Ev_len_c te23 rfl) rfl ?_
  refine AL_ev (Ev_lss rfl rfl) rfl ?_
  refine AL_nil ?_
  refine hK5 _ _ _ ?_
  refine AC_cond rfl (fun hc1 => ?_) (fun hc1 => ?_)
  · skip
    have hlt : j < xs.length := by simpa using hc1
    obtain ⟨u, hu⟩ : ∃ x, xs[j]? = some x := ⟨_, List.getElem?_eq_getElem hlt⟩
    have hu2 := strs_get hu
    have hdr := drop_get hu
    refine AC_skip ?_
    refine hK4 _ _ _ ?_
    refine AC_seq fun K6 hK6 => ?_
    refine AC_block ?_
    refine AC_seq fun K7 hK7 => ?_
    refine AC_region ?_
    refine AL_ev (Ev_move) rfl ?_
    refine AL_ev (Ev_move) rfl ?_
    first | refine AL_ev (Ev_ix_sl rfl rfl te23 ts9 (by omega) (by assumption)) rfl ?_ | refine AL_ev (Ev_ix_ref rfl rfl te23 ts9 (by omega) (by first | omega | (simp; omega))) rfl ?_
    first | refine AL_ev (Ev_load_ptr rfl rfl rfl rfl rfl rfl ts9 ta9 rfl (fun _ => rfl)) rfl ?_ | refine AL_ev (Ev_load_rp rfl rfl rfl ts9 ta9 rfl (fun _ => rfl)) rfl ?_
    refine AL_ev (Ev_move) rfl ?_
    refine AL_ev (Ev_seql rfl rfl) rfl ?_
    refine AL_nil ?_
    refine hK7 _ _ _ ?_
    refine AC_cond rfl (fun hc2 => ?_) (fun hc2 => ?_)
    · skip
      refine AC_seq fun K8 hK8 => ?_
      refine AC_region ?_
      refine AL_ev (Ev_assign) rfl ?_
      refine AL_nil ?_
      refine hK8 _ _ _ ?_
      refine AC_ret ?_
      refine ret_ok hdm (.tmp rfl rfl .nil) (.cons .d .nil) ?_
      try rw [hI]
      try rw [hdr]
      try simp_all [List.length_pos_iff, hasS]
      try omega
    · skip
      refine AC_skip ?_
      refine hK6 _ _ _ ?_
      refine AC_region ?_
      refine AL_ev (Ev_move) rfl ?_
      first | refine AL_ev (Ev_add rfl rfl _ (wrap_id (by first | omega | (simp; omega)) (by first | omega | (simp; omega)))) rfl ?_ | refine AL_ev (Ev_add rfl rfl _ rfl) rfl ?_
      refine AL_ev (Ev_assign) rfl ?_
      refine AL_nil ?_
      refine closeS (j + 1) [] rfl rfl (by show xs.length - (j + 1) < xs.length - j; omega) ⟨hlt, ?_⟩ BxTo_nil (SlTo_cons (by first | exact .rd .d | exact Vw_int (by first | rfl | assumption | omega | (simp; done) | (simp; omega)) | exact Vw_c (by first | rfl | (simp; done) | simp_all) | exact .any) (SlTo_cons (by first | exact .rd .d | exact .any) (SlTo_cons (by first | exact .rd .d | exact .any) SlTo_nil)))
      rw [hI]
      try rw [hdr]
      try simp_all [hasS]
      try omega
  · skip
    have hj2 : j = xs.length := by
      have : ¬ j < xs.length := by simpa using hc1
      omega
    subst hj2
    rw [List.drop_length] at hI
    refine AC_exit ?_
    refine hK2 _ _ _ ?_
    refine AC_seq fun K9 hK9 => ?_
    refine AC_region ?_
    refine AL_ev (Ev_assign) rfl ?_
    refine AL_nil ?_
    refine hK9 _ _ _ ?_
    refine AC_ret ?_
    refine ret_ok hdm (.tmp rfl rfl .nil) (.cons .d .nil) ?_
    try rw [hI]
    try rw [hdr]
    try simp_all [List.length_pos_iff, hasS]
    try omega

set_option maxHeartbeats 1000000 in
set_option maxRecDepth 4000 in
theorem c_l23Add (xs : List ByteArray) (s : ByteArray) (hl : xs.length + 1 ≤ 1099511627776) : PCall Tryd.prog 32 [.sl .one (strs xs), .c (.string s)] (· = [.sl .one (strs (onceL xs s))]) := by
  refine PCall_of (n := 15) Tryd.func32 rfl rfl (Nat.le_of_ble_eq_true rfl) fun C hdm hT0 => ?_
  have hT := hT0
  refine AC_seq fun K1 hK1 => ?_
  refine AC_region ?_
  refine AL_ev (Ev_assign) rfl ?_
  refine AL_nil ?_
  refine hK1 _ _ _ ?_
  refine AC_seq fun K2 hK2 => ?_
  refine AC_seq fun K3 hK3 => ?_
  refine AC_region ?_
  refine AL_ev (Ev_move) rfl ?_
  refine AL_ev (Ev_move) rfl ?_
  refine AL_fcall0 hT rfl cl46 (c_l23Has xs s) rfl rfl ?_
  refine AL_nil ?_
  refine hK3 _ _ _ ?_
  refine AC_cond rfl (fun hc1 => ?_) (fun hc1 => ?_)
  · skip
    refine AC_seq fun K4 hK4 => ?_
    refine AC_region ?_
    refine AL_ev (Ev_move) rfl ?_
    refine AL_ev (Ev_assign) rfl ?_
    refine AL_nil ?_
    refine hK4 _ _ _ ?_
    refine AC_ret ?_
    exact ret_ok hdm (.tmp rfl rfl .nil) (.cons .d .nil) (by rw [onceL, if_pos hc1])
  · skip
    refine AC_skip ?_
    refine hK2 _ _ _ ?_
    refine AC_seq fun K5 hK5 => ?_
    refine AC_region ?_
    refine AL_bV .one rfl te23 ts9 tz9 rfl rfl (by decide) (by decide) (by first | rfl | simp [lenDs, goodVs, goodV, V.known, Lay.len, Lay.lens]) _ rfl rfl ?_
    refine AL_ev (Ev_move) rfl ?_
    first | refine AL_append rfl rfl rfl te23 ts9 tz9 rfl tb9 (by decide) (by decide) rfl (by first | rfl | (simp; done) | (simp; omega)) (Src_sl rfl) (by simp only [lim]; first | omega | (simp; done) | (simp; omega)) _ rfl rfl ?_ | refine AL_append rfl rfl rfl te23 ts9 tz9 rfl tb9 (by decide) (by decide) rfl (by first | rfl | (simp; done) | (simp; omega)) (Src_ref rfl rfl rfl (by first | rfl | (simp; done) | (simp; omega))) (by simp only [lim]; first | omega | (simp; done) | (simp; omega)) _ rfl rfl ?_ | refine AL_append rfl rfl rfl te23 ts9 tz9 rfl tb9 (by decide) (by decide) rfl (by first | rfl | (simp; done) | (simp; omega)) (Src_nil rfl) (by simp only [lim]; first | omega | (simp; done) | (simp; omega)) _ rfl rfl ?_
    refine AL_ev (Ev_move) rfl ?_
    first | refine AL_bD .one rfl te23 ts9 tz9 rfl rfl (by decide) (by decide) (by first | rfl | simp [lenDs, goodVs, goodV, V.known, Lay.len, Lay.lens]) rfl ?_ | refine AL_bV .one rfl te23 ts9 tz9 rfl rfl (by decide) (by decide) (by first | rfl | simp [lenDs, goodVs, goodV, V.known, Lay.len, Lay.lens]) _ rfl rfl ?_
    first | refine AL_append rfl rfl rfl te23 ts9 tz9 rfl tb9 (by decide) (by decide) rfl (by first | rfl | (simp; done) | (simp; omega)) (Src_sl rfl) (by simp only [lim]; first | omega | (simp; done) | (simp; omega)) _ rfl rfl ?_ | refine AL_append rfl rfl rfl te23 ts9 tz9 rfl tb9 (by decide) (by decide) rfl (by first | rfl | (simp; done) | (simp; omega)) (Src_ref rfl rfl rfl (by first | rfl | (simp; done) | (simp; omega))) (by simp only [lim]; first | omega | (simp; done) | (simp; omega)) _ rfl rfl ?_ | refine AL_append rfl rfl rfl te23 ts9 tz9 rfl tb9 (by decide) (by decide) rfl (by first | rfl | (simp; done) | (simp; omega)) (Src_nil rfl) (by simp only [lim]; first | omega | (simp; done) | (simp; omega)) _ rfl rfl ?_
    refine AL_ev (Ev_assign) rfl ?_
    refine AL_nil ?_
    refine hK5 _ _ _ ?_
    refine AC_ret ?_
    refine ret_ok hdm (.tmp rfl rfl .nil) (.cons (.ref trivial rfl rfl (by simp) (ReadsL_eq (xs := strs xs ++ [.c (.string s)]) (by simp))) .nil) (by simp [onceL, hc1, strs])

set_option maxHeartbeats 1000000 in
set_option maxRecDepth 4000 in
theorem c_once (xs : List ByteArray) (s : ByteArray) (hl : xs.length + 1 ≤ 1099511627776) : BCall Tryd.prog 38 [] 9 .one (strs xs) [.c (.string s)] (strs (onceL xs s)) := by
  refine BCall_of (n := 13) Tryd.func38 rfl rfl (Nat.le_of_ble_eq_true rfl) fun C o hdm hT => ?_
  refine AC_seq fun K1 hK1 => ?_
  refine AC_region ?_
  refine AL_ev (Ev_assign) rfl ?_
  refine AL_nil ?_
  refine hK1 _ _ _ ?_
  refine AC_seq fun K2 hK2 => ?_
  refine AC_seq fun K3 hK3 => ?_
  refine AC_region ?_
  refine AL_ev (Ev_move) rfl ?_
  refine AL_ev (Ev_move) rfl ?_
  refine AL_qcall hT rfl cl54 (c_containsS xs s) (.cons (.rd (.ref trivial rfl rfl (by simp) (ReadsL_d _))) (.cons (.rd .d) .nil)) rfl ?_
  refine AL_nil ?_
  refine hK3 _ _ _ ?_
  refine AC_cond rfl (fun hc1 => ?_) (fun hc1 => ?_)
  · skip
    refine AC_seq fun K4 hK4 => ?_
    refine AC_region ?_
    refine AL_ev (Ev_move) rfl ?_
    refine AL_ev (Ev_assign) rfl ?_
    refine AL_nil ?_
    refine hK4 _ _ _ ?_
    refine AC_ret ?_
    refine retb_ok hdm (.tmp rfl rfl .nil) rfl (by rw [onceL, if_pos hc1]) (by rw [onceL, if_pos hc1])
  · skip
    refine AC_skip ?_
    refine hK2 _ _ _ ?_
    refine AC_seq fun K5 hK5 => ?_
    refine AC_region ?_
    refine AL_ev (Ev_move) rfl ?_
    refine AL_ev (Ev_move) rfl ?_
    first | refine AL_bD .one rfl te23 ts9 tz9 rfl rfl (by decide) (by decide) (by first | rfl | simp [lenDs, goodVs, goodV, V.known, Lay.len, Lay.lens]) rfl ?_ | refine AL_bV .one rfl te23 ts9 tz9 rfl rfl (by decide) (by decide) (by first | rfl | simp [lenDs, goodVs, goodV, V.known, Lay.len, Lay.lens]) _ rfl rfl ?_
    first | refine AL_append rfl rfl rfl te23 ts9 tz9 rfl tb9 (by decide) (by decide) rfl (by first | rfl | (simp; done) | (simp; omega)) (Src_sl rfl) (by simp only [lim]; first | omega | (simp; done) | (simp; omega)) _ rfl rfl ?_ | refine AL_append rfl rfl rfl te23 ts9 tz9 rfl tb9 (by decide) (by decide) rfl (by first | rfl | (simp; done) | (simp; omega)) (Src_ref rfl rfl rfl (by first | rfl | (simp; done) | (simp; omega))) (by simp only [lim]; first | omega | (simp; done) | (simp; omega)) _ rfl rfl ?_ | refine AL_append rfl rfl rfl te23 ts9 tz9 rfl tb9 (by decide) (by decide) rfl (by first | rfl | (simp; done) | (simp; omega)) (Src_nil rfl) (by simp only [lim]; first | omega | (simp; done) | (simp; omega)) _ rfl rfl ?_
    refine AL_ev (Ev_assign) rfl ?_
    refine AL_nil ?_
    refine hK5 _ _ _ ?_
    refine AC_ret ?_
    refine retb_ok hdm (.tmp rfl rfl .nil) rfl (by simp [onceL, hc1, strs]) (by simp [onceL, hc1])

set_option maxHeartbeats 1000000 in
set_option maxRecDepth 4000 in
theorem c_specPredOf (t : T) (hb : bulk t ≤ 1099511627776) : PCall Tryd.prog 33 [inj t] (· = [.c (.string (predS t))]) := by
  obtain ⟨k, s, m, ks⟩ := t
  obtain ⟨hs, hkl, hku⟩ := bulk_mk hb
  have hsz : s.size + (⟨#[47]⟩ : ByteArray).size ≤ 4611686018427387904 := by
    have : (⟨#[47]⟩ : ByteArray).size = 1 := rfl
    omega
  have hdz := dec_size (ks.length : Int) (by omega) (by omega)
  have hsz2 : (s ++ (⟨#[47]⟩ : ByteArray)).size + (dec ks.length).size ≤ 4611686018427387904 := by
    have : (⟨#[47]⟩ : ByteArray).size = 1 := rfl
    rw [ByteArray.size_append]
    omega
  refine PCall_of (n := 19) Tryd.func33 rfl rfl (Nat.le_of_ble_eq_true rfl) fun C hdm hT0 => ?_
  have hT := hT0
  refine AC_seq fun K1 hK1 => ?_
  refine AC_region ?_
  refine AL_box (Lay.st [.one, .one, .one, .one]) (nf rfl) rfl (by first | rfl | simp [Lay.len, Lay.lens]) _ rfl rfl ?_
  refine AL_ev (Ev_assign) rfl ?_
  refine AL_nil ?_
  refine hK1 _ _ _ ?_
  refine AC_seq fun K2 hK2 => ?_
  refine AC_seq fun K3 hK3 => ?_
  refine AC_region ?_
  first | refine AL_ev (Ev_fa_ptr rfl fa48_0 rfl rfl) rfl ?_ | refine AL_ev (Ev_fa_rp rfl fa48_0 rfl rfl) rfl ?_
  first | refine AL_ev (Ev_load_ptr rfl rfl rfl rfl rfl rfl ts3 ta3 rfl (fun _ => rfl)) rfl ?_ | refine AL_ev (Ev_load_rp rfl rfl rfl ts3 ta3 rfl (fun _ => rfl)) rfl ?_
  refine AL_ev (Ev_neq rfl rfl) rfl ?_
  refine AL_ev (Ev_move) rfl ?_
  refine AL_bool 6 rfl (fun hg1 => ?_) (fun hg1 => ?_)
  · skip
    refine AL_guard_t rfl rfl rfl ?_
    first | refine AL_ev (Ev_fa_ptr rfl fa48_0 rfl rfl) rfl ?_ | refine AL_ev (Ev_fa_rp rfl fa48_0 rfl rfl) rfl ?_
    refine AL_guard_t rfl rfl rfl ?_
    first | refine AL_ev (Ev_load_ptr rfl rfl rfl rfl rfl rfl ts3 ta3 rfl (fun _ => rfl)) rfl ?_ | refine AL_ev (Ev_load_rp rfl rfl rfl ts3 ta3 rfl (fun _ => rfl)) rfl ?_
    refine AL_guard_t rfl rfl rfl ?_
    refine AL_ev (Ev_neq rfl rfl) rfl ?_
    refine AL_ev (Ev_pick rfl) rfl ?_
    refine AL_nil ?_
    refine hK3 _ _ _ ?_
    refine AC_cond rfl (fun hc2 => ?_) (fun hc2 => ?_)
    · skip
      refine AC_seq fun K4 hK4 => ?_
      refine AC_region ?_
      refine AL_ev (Ev_assign) rfl ?_
      refine AL_nil ?_
      refine hK4 _ _ _ ?_
      refine AC_ret ?_
      refine ret_ok hdm (.tmp rfl rfl .nil) (.cons .d .nil) ?_
      try rw [predS]
      try rw [hI]
      try rw [hdr]
      try simp_all [List.length_pos_iff, T.kind, T.name, T.kids, slash]
      try omega
    · skip
      refine AC_skip ?_
      refine hK2 _ _ _ ?_
      refine AC_seq fun K5 hK5 => ?_
      refine AC_draw hT follows [0, 1, 2, 3, 4, 5, 6, 7, 8] (by kernel_rfl) ?_
      first | refine DT_ev rfl (EA_fa_ptr rfl fa48_1 rfl rfl) rfl ?_ | refine DT_ev rfl (EA_fa_rp rfl fa48_1 rfl rfl) rfl ?_
      first | refine DT_ev rfl (EA_load_ptr rfl rfl rfl rfl rfl rfl ts9 ta9 rfl (fun _ => rfl)) rfl ?_ | refine DT_ev rfl (EA_load_rp rfl rfl rfl ts9 ta9 rfl (fun _ => rfl)) rfl ?_
      refine DT_ev rfl (EA_sadd rfl rfl (by first | assumption | omega)) rfl ?_
      first | refine DT_ev rfl (EA_fa_ptr rfl fa48_3 rfl rfl) rfl ?_ | refine DT_ev rfl (EA_fa_rp rfl fa48_3 rfl rfl) rfl ?_
      first | refine DT_ev rfl (EA_load_ptr rfl rfl rfl rfl rfl rfl ts46 ta46 rfl (fun _ => rfl)) rfl ?_ | refine DT_ev rfl (EA_load_rp rfl rfl rfl ts46 ta46 rfl (fun _ => rfl)) rfl ?_
      first | refine DT_ev rfl (EA_len_injs te46 rfl) rfl ?_ | refine DT_ev rfl (EA_len_sl te46 rfl) rfl ?_ | refine DT_ev rfl (EA_len_ref te46 rfl) rfl ?_ | refine DT_ev rfl (EA_len_nil te46 rfl) rfl ?_
      refine DT_fcall0 rfl rfl cl47 (c_specDecimal ks.length (by omega) (by omega)) rfl rfl ?_
      refine DT_ev rfl (EA_sadd rfl rfl (by first | assumption | omega)) rfl ?_
      refine DT_ev rfl (EA_assign) rfl ?_
      refine DTi.nil ?_
      refine hK5 _ _ _ ?_
      refine AC_ret ?_
      refine ret_ok hdm (.tmp rfl rfl .nil) (.cons .d .nil) ?_
      try rw [predS]
      try rw [hI]
      try rw [hdr]
      try simp_all [List.length_pos_iff, T.kind, T.name, T.kids, slash]
      try omega
  · skip
    refine AL_guard_f rfl rfl rfl rfl ?_
    refine AL_guard_f rfl rfl rfl rfl ?_
    refine AL_guard_f rfl rfl rfl rfl ?_
    refine AL_ev (Ev_pick rfl) rfl ?_
    refine AL_nil ?_
    refine hK3 _ _ _ ?_
    first | refine AC_cond_f rfl ?_ | refine AC_cond_f (congrArg bl hc2) ?_
    refine AC_skip ?_
    refine hK2 _ _ _ ?_
    refine AC_seq fun K6 hK6 => ?_
    refine AC_draw hT follows [0, 1, 2, 3, 4, 5, 6, 7, 8] (by kernel_rfl) ?_
    first | refine DT_ev rfl (EA_fa_ptr rfl fa48_1 rfl rfl) rfl ?_ | refine DT_ev rfl (EA_fa_rp rfl fa48_1 rfl rfl) rfl ?_
    first | refine DT_ev rfl (EA_load_ptr rfl rfl rfl rfl rfl rfl ts9 ta9 rfl (fun _ => rfl)) rfl ?_ | refine DT_ev rfl (EA_load_rp rfl rfl rfl ts9 ta9 rfl (fun _ => rfl)) rfl ?_
    refine DT_ev rfl (EA_sadd rfl rfl (by first | assumption | omega)) rfl ?_
    first | refine DT_ev rfl (EA_fa_ptr rfl fa48_3 rfl rfl) rfl ?_ | refine DT_ev rfl (EA_fa_rp rfl fa48_3 rfl rfl) rfl ?_
    first | refine DT_ev rfl (EA_load_ptr rfl rfl rfl rfl rfl rfl ts46 ta46 rfl (fun _ => rfl)) rfl ?_ | refine DT_ev rfl (EA_load_rp rfl rfl rfl ts46 ta46 rfl (fun _ => rfl)) rfl ?_
    first | refine DT_ev rfl (EA_len_injs te46 rfl) rfl ?_ | refine DT_ev rfl (EA_len_sl te46 rfl) rfl ?_ | refine DT_ev rfl (EA_len_ref te46 rfl) rfl ?_ | refine DT_ev rfl (EA_len_nil te46 rfl) rfl ?_
    refine DT_fcall0 rfl rfl cl47 (c_specDecimal ks.length (by omega) (by omega)) rfl rfl ?_
    refine DT_ev rfl (EA_sadd rfl rfl (by first | assumption | omega)) rfl ?_
    refine DT_ev rfl (EA_assign) rfl ?_
    refine DTi.nil ?_
    refine hK6 _ _ _ ?_
    refine AC_ret ?_
    refine ret_ok hdm (.tmp rfl rfl .nil) (.cons .d .nil) ?_
    try rw [predS]
    try rw [hI]
    try rw [hdr]
    try simp_all [List.length_pos_iff, T.kind, T.name, T.kids, slash]
    try omega

set_option maxHeartbeats 1000000 in
set_option maxRecDepth 4000 in
theorem c_predsOf (d : Dbt) (hb : bulkD d ≤ 1048576) : OCall Tryd.prog 20 [injD d] (.sl .one (strs (predsF d.cs []))) := by
  obtain ⟨cs, op⟩ := d
  obtain ⟨hnc, hbc, hno, hbo⟩ := bulkD_bd hb
  refine OCall_of (n := 20) Tryd.func20 rfl rfl (Nat.le_of_ble_eq_true rfl) fun C0 hdm hT0 => ?_
  have hX0 := CExt.refl C0
  have hT := hT0
  refine AC_seq fun K1 hK1 => ?_
  refine AC_region ?_
  refine AL_box (Lay.st [.one, .one]) (nf rfl) rfl (by first | rfl | simp [Lay.len, Lay.lens]) _ rfl rfl ?_
  refine AL_ev (Ev_assign) rfl ?_
  refine AL_nil ?_
  refine hK1 _ _ _ ?_
  refine AC_seq fun K2 hK2 => ?_
  refine AC_region ?_
  refine AL_ev (Ev_assign) rfl ?_
  refine AL_nil ?_
  refine hK2 _ _ _ ?_
  refine AC_seq fun K3 hK3 => ?_
  refine AC_seq fun K4 hK4 => ?_
  refine AC_region ?_
  first | refine AL_ev (Ev_fa_ptr rfl fa32_0 rfl rfl) rfl ?_ | refine AL_ev (Ev_fa_rp rfl fa32_0 rfl rfl) rfl ?_
  first | refine AL_ev (Ev_load_ptr rfl rfl rfl rfl rfl rfl ts30 ta30 rfl (fun _ => rfl)) rfl ?_ | refine AL_ev (Ev_load_rp rfl rfl rfl ts30 ta30 rfl (fun _ => rfl)) rfl ?_
  first | refine AL_lim (x := (Operand.tmp 7)) rfl fun hl1 => ?_ | refine AL_limB (x := (Operand.tmp 7)) rfl rfl (by first | rfl | (simp; done) | (simp; omega)) fun hl1 => ?_ | have hl1 := True.intro
  try simp only [injs_length, ints_length, strs_length, injCs_length, List.length_map] at hl1
  first | refine AL_ev (Ev_len_injCs te30 rfl) rfl ?_ | refine AL_ev (Ev_len_sl te30 rfl) rfl ?_ | refine AL_ev (Ev_len_ref te30 rfl) rfl ?_ | refine AL_ev (Ev_len_nil te30 rfl) rfl ?_ | refine AL_ev (Ev_len_c te30 rfl) rfl ?_
  refine AL_ev (Ev_move) rfl ?_
  refine AL_nil ?_
  refine hK4 _ _ _ ?_
  refine AC_block ?_
  refine AC_loopS [7, 8] (Nat × List ByteArray) (fun ⟨j, out⟩ => [(9, i64 j), (3, .ref .one 0 0 (strs out).length)]) (fun ⟨j, out⟩ => [some ⟨9, .one, (strs out).map V.d⟩]) (fun st => cs.length - st.1) (fun ⟨j, out⟩ => j ≤ cs.length ∧ (predsF cs [] = predsF (cs.drop j) out ∧ out.length ≤ j)) ((0, [])) ?_ ?_ ?_
  · skip
    refine Wk.then (Wk_nil_slot 3 9 .one rfl 1 rfl ?_)
    exact enterS [some 1] rfl rfl (BxTo_some rfl rfl rfl rfl (by first | exact .nil | exact VwL_dd (by first | rfl | simp) | exact VwL_app (by first | rfl | simp) | exact VwL_of (by first | rfl | simp)) BxTo_nil) (SlTo_cons (by first | exact .rd .d | exact Vw_int (by first | rfl | assumption | omega | (simp; done) | (simp; omega)) | exact Vw_c (by first | rfl | (simp; done) | simp_all) | exact .any) (SlTo_cons (Vw_refe rfl (by first | rfl | simp)) (SlTo_cons (by first | exact .rd .d | exact .any) (SlTo_cons (by first | exact .rd .d | exact .any) SlTo_nil))))
  · skip
    exact ⟨Nat.zero_le _, by simp, by simp⟩
  rintro ⟨j, out⟩ ⟨hj, ⟨hI, ho⟩⟩
  show AC _ _ _ _ _ (FS [7, 8] _ [(9, i64 j), (3, .ref .one 0 0 (strs out).length)]) [some ⟨9, .one, (strs out).map V.d⟩]
  refine AC_seq fun K5 hK5 => ?_
  refine AC_region ?_
  refine AL_ev (Ev_lss rfl rfl) rfl ?_
  refine AL_nil ?_
  refine hK5 _ _ _ ?_
  refine AC_seq fun K6 hK6 => ?_
  refine AC_cond rfl (fun hc1 => ?_) (fun hc1 => ?_)
  · skip
    have hlt : j < cs.length := by simpa using hc1
    obtain ⟨u, hu⟩ : ∃ x, cs[j]? = some x := ⟨_, List.getElem?_eq_getElem hlt⟩
    have hu2 := injCs_get hu
    have hdr := drop_get hu
    obtain ⟨hbu, _, _⟩ := bulkCs_bd (List.mem_of_getElem? hu) hbc
    rw [hdr, predsF] at hI
    have hol := onceL_len out (predS u.h)
    refine AC_skip ?_
    refine hK6 _ _ _ ?_
    refine AC_seq fun K7 hK7 => ?_
    refine AC_block ?_
    refine AC_seq fun K8 hK8 => ?_
    refine AC_region ?_
    first | refine AL_ev (Ev_ix_sl rfl rfl te30 ts50 (by omega) (by assumption)) rfl ?_ | refine AL_ev (Ev_ix_ref rfl rfl te30 ts50 (by omega) (by first | omega | (simp; omega))) rfl ?_
    first | refine AL_ev (Ev_load_ptr rfl rfl rfl rfl rfl rfl ts50 ta50 (by first | rfl | simp) (by intro h; cases h)) rfl ?_ | refine AL_ev (Ev_load_rp rfl rfl rfl ts50 ta50 (by first | rfl | simp) (by intro h; cases h)) rfl ?_
    refine AL_alloc zo50 _ rfl rfl ?_
    first | refine AL_store rfl (nf rfl) rfl rfl rfl rfl rfl rfl (by first | rfl | simp [Lay.len, Lay.lens]) ts50 rfl rfl ?_ | refine AL_store rfl (nf rfl) rfl rfl rfl hes rfl rfl (by first | rfl | simp [Lay.len, Lay.lens]) ts50 rfl rfl ?_
    refine AL_nil ?_
    refine hK8 _ _ _ ?_
    refine AC_region ?_
    refine AL_ev (Ev_move) rfl ?_
    first | refine AL_ev (Ev_fa_ptr rfl fa50_0 rfl rfl) rfl ?_ | refine AL_ev (Ev_fa_rp rfl fa50_0 rfl rfl) rfl ?_
    first | refine AL_ev (Ev_load_ptr rfl rfl rfl rfl rfl rfl ts48 ta48 (by first | rfl | simp) (by intro h; cases h)) rfl ?_ | refine AL_ev (Ev_load_rp rfl rfl rfl ts48 ta48 (by first | rfl | simp) (by intro h; cases h)) rfl ?_
    refine AL_fcall0 hT rfl cl23 (c_predOf u.h (by omega)) rfl rfl ?_
    first | refine AL_bcall hT _ _ [] rfl cl38 rfl rfl rfl rfl (c_once out (predS u.h) (by omega)) rfl rfl (by first | rfl | (simp; done) | (simp; omega)) _ rfl rfl ?_ | refine AL_bcalln hT [] rfl cl38 rfl rfl rfl rfl (c_once out (predS u.h) (by omega)) _ rfl rfl ?_
    refine AL_ev (Ev_assign) rfl ?_
    refine AL_nil ?_
    refine hK7 _ _ _ ?_
    refine AC_region ?_
    first | refine AL_ev (Ev_add rfl rfl _ (wrap_id (by first | omega | (simp; omega)) (by first | omega | (simp; omega)))) rfl ?_ | refine AL_ev (Ev_add rfl rfl _ rfl) rfl ?_
    refine AL_ev (Ev_move) rfl ?_
    refine AL_nil ?_
    refine closeS (j + 1, onceL out (predS u.h)) [some 2] rfl rfl (by show cs.length - (j + 1) < cs.length - j; omega) ⟨hlt, ?_⟩ (BxTo_some rfl rfl rfl rfl (by first | exact VwL_app (by first | rfl | simp [ints, strs] | simp [ints, strs, injs_map]) | exact VwL_dd (by first | rfl | simp [ints, strs] | simp [ints, strs, injs_map]) | exact VwL_of (by first | rfl | simp [ints, strs] | simp [ints, strs, injs_map])) BxTo_nil) (SlTo_cons (by first | exact .rd .d | exact Vw_int (by first | rfl | assumption | omega | (simp; done) | (simp; omega)) | exact Vw_c (by first | rfl | (simp; done) | simp_all) | exact .any) (SlTo_cons (Vw_refe rfl (by first | rfl | simp | (simp; omega))) (SlTo_cons (by first | exact .rd .d | exact .any) (SlTo_cons (by first | exact .rd .d | exact .any) SlTo_nil))))
    exact ⟨hI, by omega⟩
  · skip
    have hj2 : j = cs.length := by
      have : ¬ j < cs.length := by simpa using hc1
      omega
    subst hj2
    rw [List.drop_length] at hI
    refine AC_exit ?_
    refine hK3 _ _ _ ?_
    refine AC_seq fun K9 hK9 => ?_
    refine AC_region ?_
    refine AL_ev (Ev_move) rfl ?_
    refine AL_ev (Ev_assign) rfl ?_
    refine AL_nil ?_
    refine hK9 _ _ _ ?_
    refine AC_ret ?_
    rw [predsF] at hI
    show Fin _ _ (retOQ _ _ _ (.sl .one (strs (predsF cs []))) _) _ _
    rw [hI]
    refine reto_ok hX0 hdm (.tmp rfl rfl .nil) (.ref rfl rfl (by first | rfl | simp) (OwVs_strs (by first | rfl | simp)) (by simp)) rfl rfl

set_option maxHeartbeats 1000000 in
set_option maxRecDepth 4000 in
theorem c_specPredsOf (d : Dbt) (hb : bulkD d ≤ 1048576) : PCall Tryd.prog 15 [injD d] (· = [.sl .one (strs (predsF d.cs []))]) := by
  obtain ⟨cs, op⟩ := d
  obtain ⟨hnc, hbc, hno, hbo⟩ := bulkD_bd hb
  refine PCall_of (n := 23) Tryd.func15 rfl rfl (Nat.le_of_ble_eq_true rfl) fun C hdm hT0 => ?_
  have hT := hT0
  refine AC_seq fun K1 hK1 => ?_
  refine AC_region ?_
  refine AL_box (Lay.st [.one, .one]) (nf rfl) rfl (by first | rfl | simp [Lay.len, Lay.lens]) _ rfl rfl ?_
  refine AL_ev (Ev_assign) rfl ?_
  refine AL_nil ?_
  refine hK1 _ _ _ ?_
  refine AC_seq fun K2 hK2 => ?_
  refine AC_region ?_
  first | refine AL_bD .one rfl te23 ts9 tz9 rfl rfl (by decide) (by decide) (by first | rfl | simp [lenDs, goodVs, goodV, V.known, Lay.len, Lay.lens]) rfl ?_ | refine AL_bV .one rfl te23 ts9 tz9 rfl rfl (by decide) (by decide) (by first | rfl | simp [lenDs, goodVs, goodV, V.known, Lay.len, Lay.lens]) _ rfl rfl ?_
  refine AL_ev (Ev_assign) rfl ?_
  refine AL_nil ?_
  refine hK2 _ _ _ ?_
  refine AC_seq fun K3 hK3 => ?_
  refine AC_seq fun K4 hK4 => ?_
  refine AC_region ?_
  refine AL_ev (Ev_assign) rfl ?_
  refine AL_nil ?_
  refine hK4 _ _ _ ?_
  refine AC_block ?_
  refine AC_loopS [] (Nat × List ByteArray) (fun ⟨j, out⟩ => [(4, i64 j), (3, .d (.sl .one (strs out))), (1, .d (.rp (Lay.st [.one, .one]) (injD ⟨cs, op⟩) []))]) (fun ⟨j, out⟩ => []) (fun st => cs.length - st.1) (fun ⟨j, out⟩ => j ≤ cs.length ∧ (predsF cs [] = predsF (cs.drop j) out ∧ out.length ≤ j)) ((0, [])) ?_ ?_ ?_
  · skip
    exact enterS [] rfl rfl BxTo_nil (SlTo_cons (by first | exact .rd .d | exact Vw_int (by first | rfl | assumption | omega | (simp; done) | (simp; omega)) | exact Vw_c (by first | rfl | (simp; done) | simp_all) | exact .any) (SlTo_cons (by first | exact .rd .d | exact Vw_int (by first | rfl | assumption | omega | (simp; done) | (simp; omega)) | exact Vw_c (by first | rfl | (simp; done) | simp_all) | exact .any) (SlTo_cons (by first | exact .rd (.ptr (srcFree rfl) rfl rfl rfl .d) | exact .rd .d) SlTo_nil)))
  · skip
    exact ⟨Nat.zero_le _, by simp, by simp⟩
  rintro ⟨j, out⟩ ⟨hj, ⟨hI, ho⟩⟩
  show AC _ _ _ _ _ (FS [] _ [(4, i64 j), (3, .d (.sl .one (strs out))), (1, .d (.rp (Lay.st [.one, .one]) (injD ⟨cs, op⟩) []))]) []
  refine AC_seq fun K5 hK5 => ?_
  refine AC_seq fun K6 hK6 => ?_
  refine AC_region ?_
  refine AL_ev (Ev_move) rfl ?_
  first | refine AL_ev (Ev_fa_ptr rfl fa32_0 rfl rfl) rfl ?_ | refine AL_ev (Ev_fa_rp rfl fa32_0 rfl rfl) rfl ?_
  first | refine AL_ev (Ev_load_ptr rfl rfl rfl rfl rfl rfl ts30 ta30 rfl (fun _ => rfl)) rfl ?_ | refine AL_ev (Ev_load_rp rfl rfl rfl ts30 ta30 rfl (fun _ => rfl)) rfl ?_
  first | refine AL_lim (x := (Operand.tmp 8)) rfl fun hl1 => ?_ | refine AL_limB (x := (Operand.tmp 8)) rfl rfl (by first | rfl | (simp; done) | (simp; omega)) fun hl1 => ?_ | have hl1 := True.intro
  try simp only [injs_length, ints_length, strs_length, injCs_length, List.length_map] at hl1
  first | refine AL_ev (Ev_len_injCs te30 rfl) rfl ?_ | refine AL_ev (Ev_len_sl te30 rfl) rfl ?_ | refine AL_ev (Ev_len_ref te30 rfl) rfl ?_ | refine AL_ev (Ev_len_nil te30 rfl) rfl ?_ | refine AL_ev (Ev_len_c te30 rfl) rfl ?_
  refine AL_ev (Ev_lss rfl rfl) rfl ?_
  refine AL_nil ?_
  refine hK6 _ _ _ ?_
  refine AC_cond rfl (fun hc1 => ?_) (fun hc1 => ?_)
  · skip
    have hlt : j < cs.length := by simpa using hc1
    obtain ⟨u, hu⟩ : ∃ x, cs[j]? = some x := ⟨_, List.getElem?_eq_getElem hlt⟩
    have hu2 := injCs_get hu
    have hdr := drop_get hu
    obtain ⟨hbu, _, _⟩ := bulkCs_bd (List.mem_of_getElem? hu) hbc
    rw [hdr, predsF] at hI
    have hol := onceL_len out (predS u.h)
    refine AC_skip ?_
    refine hK5 _ _ _ ?_
    refine AC_seq fun K7 hK7 => ?_
    refine AC_block ?_
    refine AC_region ?_
    refine AL_ev (Ev_move) rfl ?_
    first | refine AL_ev (Ev_fa_ptr rfl fa32_0 rfl rfl) rfl ?_ | refine AL_ev (Ev_fa_rp rfl fa32_0 rfl rfl) rfl ?_
    first | refine AL_ev (Ev_load_ptr rfl rfl rfl rfl rfl rfl ts30 ta30 rfl (fun _ => rfl)) rfl ?_ | refine AL_ev (Ev_load_rp rfl rfl rfl ts30 ta30 rfl (fun _ => rfl)) rfl ?_
    refine AL_ev (Ev_move) rfl ?_
    first | refine AL_ev (Ev_ix_sl rfl rfl te30 ts50 (by omega) (by assumption)) rfl ?_ | refine AL_ev (Ev_ix_ref rfl rfl te30 ts50 (by omega) (by first | omega | (simp; omega))) rfl ?_
    first | refine AL_ev (Ev_fa_ptr rfl fa50_0 rfl rfl) rfl ?_ | refine AL_ev (Ev_fa_rp rfl fa50_0 rfl rfl) rfl ?_
    first | refine AL_ev (Ev_load_ptr rfl rfl rfl rfl rfl rfl ts48 ta48 (by first | rfl | simp) (by intro h; cases h)) rfl ?_ | refine AL_ev (Ev_load_rp rfl rfl rfl ts48 ta48 (by first | rfl | simp) (by intro h; cases h)) rfl ?_
    refine AL_fcall0 hT rfl cl33 (c_specPredOf u.h (by omega)) rfl rfl ?_
    refine AL_fcall0 hT rfl cl32 (c_l23Add out (predS u.h) (by omega)) rfl rfl ?_
    refine AL_ev (Ev_assign) rfl ?_
    refine AL_nil ?_
    refine hK7 _ _ _ ?_
    refine AC_region ?_
    refine AL_ev (Ev_move) rfl ?_
    first | refine AL_ev (Ev_add rfl rfl _ (wrap_id (by first | omega | (simp; omega)) (by first | omega | (simp; omega)))) rfl ?_ | refine AL_ev (Ev_add rfl rfl _ rfl) rfl ?_
    refine AL_ev (Ev_assign) rfl ?_
    refine AL_nil ?_
    refine closeS (j + 1, onceL out (predS u.h)) [] rfl rfl (by show cs.length - (j + 1) < cs.length - j; omega) ⟨hlt, ?_⟩ BxTo_nil (SlTo_cons (by first | exact .rd .d | exact Vw_int (by first | rfl | assumption | omega | (simp; done) | (simp; omega)) | exact Vw_c (by first | rfl | (simp; done) | simp_all) | exact .any) (SlTo_cons (by first | exact .rd .d | exact Vw_int (by first | rfl | assumption | omega | (simp; done) | (simp; omega)) | exact Vw_c (by first | rfl | (simp; done) | simp_all) | exact .any) (SlTo_cons (by first | exact .rd (.ptr (srcFree rfl) rfl rfl rfl .d) | exact .rd .d) SlTo_nil)))
    exact ⟨hI, by omega⟩
  · skip
    have hj2 : j = cs.length := by
      have : ¬ j < cs.length := by simpa using hc1
      omega
    subst hj2
    rw [List.drop_length] at hI
    refine AC_exit ?_
    refine hK3 _ _ _ ?_
    refine AC_seq fun K8 hK8 => ?_
    refine AC_region ?_
    refine AL_ev (Ev_move) rfl ?_
    refine AL_ev (Ev_assign) rfl ?_
    refine AL_nil ?_
    refine hK8 _ _ _ ?_
    refine AC_ret ?_
    refine ret_ok hdm (.tmp rfl rfl .nil) (.cons .d .nil) ?_
    rw [predsF] at hI
    rw [hI]

set_option maxHeartbeats 1000000 in
set_option maxRecDepth 4000 in
theorem c_markStringS (xs : List ByteArray) (k : Int) (hk0 : 0 ≤ k) (hk9 : k + xs.length ≤ 1099511627776) : MCall Tryd.prog 30 (.sl .one (strs xs)) (k) (.sl .one (strs (txts k xs.length))) (k + xs.length) := by
  refine MCall_of (n := 20) .one Tryd.func30 rfl rfl (by decide) rfl rfl fun C0 cs K hdm hh hcl => ?_
  rcases open_strs hh with ⟨rfl, rfl, rfl⟩ | ⟨b, Cp, tail, ty, rfl, rfl, hB0, hlen, hc1, hc2, hc3⟩
  · skip
    skip
    refine AC_seq fun K1 hK1 => ?_
    refine AC_region ?_
    refine AL_ev (Ev_assign) rfl ?_
    refine AL_nil ?_
    refine hK1 _ _ _ ?_
    refine AC_seq fun K2 hK2 => ?_
    refine AC_seq fun K3 hK3 => ?_
    refine AC_region ?_
    refine AL_ev (Ev_assign) rfl ?_
    refine AL_nil ?_
    refine hK3 _ _ _ ?_
    refine AC_block ?_
    refine AC_loopS [0, 1] (Nat) (fun j => [(5, i64 0)]) (fun j => []) (fun j => j) (fun j => True) (0) ?_ ?_ ?_
    · skip
      exact enterS [] rfl rfl BxTo_nil (SlTo_cons (by first | exact .rd .d | exact .ptr rfl | exact .ref rfl | exact .any | exact Vw_int (by omega)) (SlTo_cons (by first | exact .rd .d | exact .ptr rfl | exact .ref rfl | exact .any | exact Vw_int (by omega)) (SlTo_cons (by first | exact .rd .d | exact .ptr rfl | exact .ref rfl | exact .any | exact Vw_int (by omega)) SlTo_nil)))
    · skip
      trivial
    intro j _
    refine AC_seq fun K4 hK4 => ?_
    refine AC_seq fun K5 hK5 => ?_
    refine AC_region ?_
    refine AL_ev (Ev_move) rfl ?_
    refine AL_ev (Ev_move) rfl ?_
    first | refine AL_lim (x := (Operand.tmp 7)) rfl fun hl1 => ?_ | refine AL_limB (x := (Operand.tmp 7)) rfl rfl (by first | rfl | (simp; done) | (simp; omega)) fun hl1 => ?_ | have hl1 := True.intro
    try simp only [injs_length, ints_length, strs_length, injCs_length, List.length_map] at hl1
    first | refine AL_ev (Ev_len_strs te23 rfl) rfl ?_ | refine AL_ev (Ev_len_sl te23 rfl) rfl ?_ | refine AL_ev (Ev_len_ref te23 rfl) rfl ?_ | refine AL_ev (Ev_len_nil te23 rfl) rfl ?_ | refine AL_ev (Ev_len_c te23 rfl) rfl ?_
    refine AL_ev (Ev_lss rfl rfl) rfl ?_
    refine AL_nil ?_
    refine hK5 _ _ _ ?_
    refine AC_cond rfl (fun hc1 => ?_) (fun hc1 => ?_)
    · skip
      exact absurd hc1 (by simp)
    · skip
      refine AC_exit ?_
      refine hK2 _ _ _ ?_
      refine AC_seq fun K6 hK6 => ?_
      refine AC_region ?_
      refine AL_ev (Ev_move) rfl ?_
      refine AL_ev (Ev_assign) rfl ?_
      refine AL_nil ?_
      refine hK6 _ _ _ ?_
      refine AC_ret ?_
      rw [show k + (([] : List ByteArray).length : Int) = k by simp]
      exact retM_ok (Mk.refl C0 []) hdm (.tmp rfl rfl .nil) (by simpa [txts] using hh)
  · skip
    rename_i _
    have hcc := hc1
    refine AC_seq fun K1 hK1 => ?_
    refine AC_region ?_
    refine AL_ev (Ev_assign) rfl ?_
    refine AL_nil ?_
    refine hK1 _ _ _ ?_
    refine AC_seq fun K2 hK2 => ?_
    refine AC_seq fun K3 hK3 => ?_
    refine AC_region ?_
    refine AL_ev (Ev_assign) rfl ?_
    refine AL_nil ?_
    refine hK3 _ _ _ ?_
    refine AC_block ?_
    refine AC_loopX (Nat) (fun j => [(1, i64 (k + j)), (5, i64 j)]) (fun j => []) (fun j => xs.length - j) (fun C j => j ≤ xs.length ∧ Mk C0 [b] C ∧ Blk C b ((txts k j ++ xs.drop j).map vs ++ tail) ty) [0] ?_ ?_
    · skip
      exact enterX 0 [] rfl rfl ⟨Nat.zero_le _, Mk.refl _ _, by simpa [txts] using hB0⟩ BxTo_nil (SlTo_cons (Vw_int (by simp)) (SlTo_cons (by first | exact .rd .d | exact .ptr rfl | exact .ref rfl | exact .any | exact Vw_int (by omega)) (SlTo_cons (by first | exact .rd .d | exact .ptr rfl | exact .ref rfl | exact .any | exact Vw_int (by omega)) SlTo_nil)))
    rintro CL j ⟨hj, hM, hB⟩
    refine AC_seq fun K4 hK4 => ?_
    refine AC_seq fun K5 hK5 => ?_
    refine AC_region ?_
    refine AL_ev (Ev_move) rfl ?_
    refine AL_ev (Ev_move) rfl ?_
    first | refine AL_lim (x := (Operand.tmp 7)) rfl fun hl1 => ?_ | refine AL_limB (x := (Operand.tmp 7)) rfl rfl (by first | rfl | (simp; done) | (simp; omega)) fun hl1 => ?_ | have hl1 := True.intro
    try simp only [injs_length, ints_length, strs_length, injCs_length, List.length_map] at hl1
    first | refine AL_ev (Ev_len_strs te23 rfl) rfl ?_ | refine AL_ev (Ev_len_sl te23 rfl) rfl ?_ | refine AL_ev (Ev_len_ref te23 rfl) rfl ?_ | refine AL_ev (Ev_len_nil te23 rfl) rfl ?_ | refine AL_ev (Ev_len_c te23 rfl) rfl ?_
    refine AL_ev (Ev_lss rfl rfl) rfl ?_
    refine AL_nil ?_
    refine hK5 _ _ _ ?_
    refine AC_cond rfl (fun hc1 => ?_) (fun hc1 => ?_)
    · skip
      have hlt : j < xs.length := by simpa using hc1
      refine AC_skip ?_
      refine hK4 _ _ _ ?_
      refine AC_seq fun K6 hK6 => ?_
      refine AC_block ?_
      refine AC_seq fun K7 hK7 => ?_
      refine AC_region ?_
      refine AL_ev (Ev_move) rfl ?_
      refine AL_ev (Ev_move) rfl ?_
      refine AL_ev (Ev_move) rfl ?_
      refine AL_fcallz rfl cl43 (c_markText (k + j) (by omega)) rfl rfl ?_
      refine AL_ev (Ev_ix_raw rfl rfl te23 ts9 (by omega) (by first | omega | (simp; omega))) rfl ?_
      refine AL_rstore rfl rfl hB (by simp; omega) ts9 (by first | rfl | assumption) rfl fun D1 hk1 hb1 => ?_
      have hk12 := hM.trans hk1 (fun x hx _ => hx)
      refine AL_nil ?_
      refine hK7 _ _ _ ?_
      refine AC_region ?_
      refine AL_ev (Ev_move) rfl ?_
      first | refine AL_ev (Ev_add rfl rfl _ (wrap_id (by first | omega | (simp; omega)) (by first | omega | (simp; omega)))) rfl ?_ | refine AL_ev (Ev_add rfl rfl _ rfl) rfl ?_
      refine AL_ev (Ev_assign) rfl ?_
      refine AL_nil ?_
      refine hK6 _ _ _ ?_
      refine AC_region ?_
      refine AL_ev (Ev_move) rfl ?_
      first | refine AL_ev (Ev_add rfl rfl _ (wrap_id (by first | omega | (simp; omega)) (by first | omega | (simp; omega)))) rfl ?_ | refine AL_ev (Ev_add rfl rfl _ rfl) rfl ?_
      refine AL_ev (Ev_assign) rfl ?_
      refine AL_nil ?_
      refine closeX (j + 1) [] rfl rfl (by show xs.length - (j + 1) < xs.length - j; omega) ⟨hlt, hk12, ?_⟩ BxTo_nil (SlTo_cons (by first | exact .rd .d | exact .ptr rfl | exact .ref rfl | exact .any | exact Vw_int (by omega)) (SlTo_cons (by first | exact .rd .d | exact .ptr rfl | exact .ref rfl | exact .any | exact Vw_int (by omega)) (SlTo_cons (by first | exact .rd .d | exact .ptr rfl | exact .ref rfl | exact .any | exact Vw_int (by omega)) SlTo_nil)))
      rw [← txts_set hlt]
      simpa using hb1
    · skip
      refine AC_exit ?_
      refine hK2 _ _ _ ?_
      refine AC_seq fun K8 hK8 => ?_
      refine AC_region ?_
      refine AL_ev (Ev_move) rfl ?_
      refine AL_ev (Ev_assign) rfl ?_
      refine AL_nil ?_
      refine hK8 _ _ _ ?_
      refine AC_ret ?_
      have hj2 : j = xs.length := by
        have : ¬ j < xs.length := by simpa using hc1
        omega
      subst hj2
      rw [List.drop_length, List.append_nil] at hB
      have hH := close_strs hB (by simpa using hlen) (by simpa using hcc) hc2 (by simpa using hc3)
      rw [txts_length] at hH
      exact retM_ok hM hdm (.tmp rfl rfl .nil) hH

set_option maxHeartbeats 1000000 in
set_option maxRecDepth 4000 in
theorem c_markClauseS (cs0 : List Cl) (k : Int) (hk0 : 0 ≤ k) (hk9 : k + cntCs cs0 ≤ 1099511627776) : MWk Tryd.prog 29 (.sl LC (injCs cs0)) (k) (k + cntCs cs0) := by
  refine MWk_of (n := 87) .one Tryd.func29 rfl rfl (by decide) rfl rfl fun C0 cs K hdm hh hcl => ?_
  have hnn := cntCs_nn cs0
  rcases open_clauses hh with ⟨rfl, rfl, rfl⟩ | ⟨b, Cp, cur0, ty, As, K', rfl, hbK, rfl, hB0, hcl0, hsh0, hk0', hlen, hlm⟩
  · skip
    skip
    refine AC_seq fun K1 hK1 => ?_
    refine AC_region ?_
    refine AL_ev (Ev_assign) rfl ?_
    refine AL_nil ?_
    refine hK1 _ _ _ ?_
    refine AC_seq fun K2 hK2 => ?_
    refine AC_seq fun K3 hK3 => ?_
    refine AC_region ?_
    refine AL_ev (Ev_assign) rfl ?_
    refine AL_nil ?_
    refine hK3 _ _ _ ?_
    refine AC_block ?_
    refine AC_loopS [0, 1] (Nat) (fun j => [(5, i64 0)]) (fun j => []) (fun j => j) (fun j => True) (0) ?_ ?_ ?_
    · skip
      exact enterS [] rfl rfl BxTo_nil (SlTo_cons (by first | exact .rd .d | exact .ptr rfl | exact .ref rfl | exact .any | exact Vw_int (by omega)) (SlTo_cons (by first | exact .rd .d | exact .ptr rfl | exact .ref rfl | exact .any | exact Vw_int (by omega)) (SlTo_cons (by first | exact .rd .d | exact .ptr rfl | exact .ref rfl | exact .any | exact Vw_int (by omega)) SlTo_nil)))
    · skip
      trivial
    intro j _
    refine AC_seq fun K4 hK4 => ?_
    refine AC_seq fun K5 hK5 => ?_
    refine AC_region ?_
    refine AL_ev (Ev_move) rfl ?_
    refine AL_ev (Ev_move) rfl ?_
    first | refine AL_lim (x := (Operand.tmp 7)) rfl fun hl1 => ?_ | refine AL_limB (x := (Operand.tmp 7)) rfl rfl (by first | rfl | (simp; done) | (simp; omega)) fun hl1 => ?_ | have hl1 := True.intro
    try simp only [injs_length, ints_length, strs_length, injCs_length, List.length_map] at hl1
    first | refine AL_ev (Ev_len_injCs te30 rfl) rfl ?_ | refine AL_ev (Ev_len_sl te30 rfl) rfl ?_ | refine AL_ev (Ev_len_ref te30 rfl) rfl ?_ | refine AL_ev (Ev_len_nil te30 rfl) rfl ?_ | refine AL_ev (Ev_len_c te30 rfl) rfl ?_
    refine AL_ev (Ev_lss rfl rfl) rfl ?_
    refine AL_nil ?_
    refine hK5 _ _ _ ?_
    refine AC_cond rfl (fun hc1 => ?_) (fun hc1 => ?_)
    · skip
      exact absurd hc1 (by simp)
    · skip
      refine AC_exit ?_
      refine hK2 _ _ _ ?_
      refine AC_seq fun K6 hK6 => ?_
      refine AC_region ?_
      refine AL_ev (Ev_move) rfl ?_
      refine AL_ev (Ev_assign) rfl ?_
      refine AL_nil ?_
      refine hK6 _ _ _ ?_
      refine AC_ret ?_
      rw [show k + cntCs [] = k by simp [cntCs]]
      exact retMW_ok (Mk.refl C0 []) hdm (.tmp rfl rfl .nil)
  · skip
    have hlm9 : cs0.length ≤ 1099511627776 := hlm
    refine AC_seq fun K1 hK1 => ?_
    refine AC_region ?_
    refine AL_ev (Ev_assign) rfl ?_
    refine AL_nil ?_
    refine hK1 _ _ _ ?_
    refine AC_seq fun K2 hK2 => ?_
    refine AC_seq fun K3 hK3 => ?_
    refine AC_region ?_
    refine AL_ev (Ev_assign) rfl ?_
    refine AL_nil ?_
    refine hK3 _ _ _ ?_
    refine AC_block ?_
    refine AC_loopX (Nat × Int × List Value × List Nat) (fun st => [(1, i64 st.2.1), (5, i64 st.1)]) (fun st => []) (fun st => cs0.length - st.1) (fun C st => st.1 ≤ cs0.length ∧ st.2.1 = k + cntCs (cs0.take st.1) ∧ Mk C0 (b :: K') C ∧ Blk C b st.2.2.1 ty ∧ st.2.2.1.length = Cp * 9 ∧ ShC st.2.2.1 As cs0.length ∧ HasK C (flatC (cs0.drop st.1)) (As.drop (2 * st.1)) st.2.2.2 ∧ ∀ x ∈ st.2.2.2, x ∈ K') [0] ?_ ?_
    · skip
      exact enterX (0, k, cur0, K') [] rfl rfl ⟨Nat.zero_le _, by simp [cntCs], Mk.refl _ _, hB0, hcl0, hsh0, hk0', fun _ h => h⟩ BxTo_nil (SlTo_cons (Vw_int rfl) (SlTo_cons (by first | exact .rd .d | exact .ptr rfl | exact .ref rfl | exact .any | exact Vw_int (by omega)) (SlTo_cons (by first | exact .rd .d | exact .ptr rfl | exact .ref rfl | exact .any | exact Vw_int (by omega)) SlTo_nil)))
    rintro CL ⟨j, q, cur, Kr⟩ ⟨hj, hq, hM, hB, hcl, hsh, hkr, hKr⟩
    simp only at hj hq hM hB hcl hsh hkr hKr
    show AC _ _ _ _ _ (FS [0] _ [(1, i64 q), (5, i64 j)]) []
    refine AC_seq fun K4 hK4 => ?_
    refine AC_seq fun K5 hK5 => ?_
    refine AC_region ?_
    refine AL_ev (Ev_move) rfl ?_
    refine AL_ev (Ev_move) rfl ?_
    first | refine AL_lim (x := (Operand.tmp 7)) rfl fun hl1 => ?_ | refine AL_limB (x := (Operand.tmp 7)) rfl rfl (by first | rfl | (simp; done) | (simp; omega)) fun hl1 => ?_ | have hl1 := True.intro
    try simp only [injs_length, ints_length, strs_length, injCs_length, List.length_map] at hl1
    first | refine AL_ev (Ev_len_injCs te30 rfl) rfl ?_ | refine AL_ev (Ev_len_sl te30 rfl) rfl ?_ | refine AL_ev (Ev_len_ref te30 rfl) rfl ?_ | refine AL_ev (Ev_len_nil te30 rfl) rfl ?_ | refine AL_ev (Ev_len_c te30 rfl) rfl ?_
    refine AL_ev (Ev_lss rfl rfl) rfl ?_
    refine AL_nil ?_
    refine hK5 _ _ _ ?_
    refine AC_cond rfl (fun hc1 => ?_) (fun hc1 => ?_)
    · skip
      have ie0 : 0 + ((j : Nat) : Int).toNat * 9 + 0 + 0 = 9 * j + 0 := ixe j 9 0 0
      have ie1 : 0 + ((j : Nat) : Int).toNat * 9 + 0 + 1 = 9 * j + 1 := ixe j 9 0 1
      have ie2 : 0 + ((j : Nat) : Int).toNat * 9 + 0 + 2 = 9 * j + 2 := ixe j 9 0 2
      have ie3 : 0 + ((j : Nat) : Int).toNat * 9 + 0 + 3 = 9 * j + 3 := ixe j 9 0 3
      have ie4 : 0 + ((j : Nat) : Int).toNat * 9 + 4 + 0 = 9 * j + 4 := ixe j 9 4 0
      have ie5 : 0 + ((j : Nat) : Int).toNat * 9 + 4 + 1 = 9 * j + 5 := ixe j 9 4 1
      have ie6 : 0 + ((j : Nat) : Int).toNat * 9 + 4 + 2 = 9 * j + 6 := ixe j 9 4 2
      have ie7 : 0 + ((j : Nat) : Int).toNat * 9 + 4 + 3 = 9 * j + 7 := ixe j 9 4 3
      have ie8 : 0 + ((j : Nat) : Int).toNat * 9 + 8 = 9 * j + 8 := ixe1 j 9 8
      have hlt : j < cs0.length := by simpa using hc1
      obtain ⟨u, hu⟩ : ∃ u, cs0[j]? = some u := ⟨_, List.getElem?_eq_getElem hlt⟩
      have hdr := drop_get hu
      rw [hdr, flatC] at hkr
      obtain ⟨A1, As1, K1, Kr1, hAs1, rfl, hd1, hH1, hkr⟩ := hkr.uncons
      obtain ⟨A2, As2, K2, Kr2, rfl, rfl, hd2, hH2, hkr⟩ := hkr.uncons
      have hKj := hKr
      have hn1 : b ∉ K1 := fun h => hbK (hKj b (by simp [h]))
      have hn2 : b ∉ K2 := fun h => hbK (hKj b (by simp [h]))
      have hnr : b ∉ Kr2 := fun h => hbK (hKj b (by simp [h]))
      obtain ⟨hA1, hA2, hA3⟩ := drop_two hAs1
      subst hA3
      have hs1 := Tr_scalar _ _ _ hH1.tr A1 (by simp)
      have hs2 := Tr_scalar _ _ _ hH2.tr A2 (by simp)
      have hct := cntCs_take_le cs0 (j + 1)
      rw [cntCs_take hu] at hct
      unfold cntC at hct
      have hcj := cntCs_nn (cs0.take j)
      have hc1n := cntL_nn u.h.kids
      have hc2n := cntL_nn u.b.kids
      refine AC_skip ?_
      refine hK4 _ _ _ ?_
      refine AC_seq fun K6 hK6 => ?_
      refine AC_block ?_
      refine AC_seq fun K7 hK7 => ?_
      refine AC_region ?_
      refine AL_ev (Ev_move) rfl ?_
      refine AL_ev (Ev_move) rfl ?_
      refine AL_ev (Ev_move) rfl ?_
      refine AL_ev (Ev_ix_raw rfl rfl te30 ts50 (by omega) (by first | omega | (simp; omega))) rfl ?_
      refine AL_ev (Ev_fa_raw rfl fa50_0) rfl ?_
      refine AL_ev (Ev_fa_raw rfl fa48_0) rfl ?_
      refine AL_rstore rfl rfl hB (lt9 hcl hlen hlt ie0 (by decide)) ts3 (by first | rfl | assumption) rfl fun D1 hk1 hb1 => ?_
      have hr1 : 0 < 9 ∧ 0 ≠ 3 ∧ 0 ≠ 7 := by decide
      have hx1 := cls_store hM hcl hsh hk1 hb1 ie0 hr1
      have hkr := hkr.mk1 hk1 hnr
      have hH2 := hH2.mk1 hk1 hn2
      have hH1 := hH1.mk1 hk1 hn1
      clear hb1 hk1 hr1
      obtain ⟨hM, hx1⟩ := hx1
      obtain ⟨cur, hB, hcl, hsh⟩ := hx1
      refine AL_nil ?_
      refine hK7 _ _ _ ?_
      refine AC_seq fun K8 hK8 => ?_
      refine AC_region ?_
      refine AL_ev (Ev_move) rfl ?_
      first | refine AL_ev (Ev_add rfl rfl _ (wrap_id (by first | omega | (simp; omega)) (by first | omega | (simp; omega)))) rfl ?_ | refine AL_ev (Ev_add rfl rfl _ rfl) rfl ?_
      refine AL_ev (Ev_assign) rfl ?_
      refine AL_nil ?_
      refine hK8 _ _ _ ?_
      refine AC_seq fun K9 hK9 => ?_
      refine AC_region ?_
      refine AL_ev (Ev_move) rfl ?_
      refine AL_ev (Ev_move) rfl ?_
      refine AL_ev (Ev_move) rfl ?_
      refine AL_fcallz rfl cl43 (c_markText (q + 1) (by omega)) rfl rfl ?_
      refine AL_ev (Ev_ix_raw rfl rfl te30 ts50 (by omega) (by first | omega | (simp; omega))) rfl ?_
      refine AL_ev (Ev_fa_raw rfl fa50_0) rfl ?_
      refine AL_ev (Ev_fa_raw rfl fa48_1) rfl ?_
      refine AL_rstore rfl rfl hB (lt9 hcl hlen hlt ie1 (by decide)) ts9 (by first | rfl | assumption) rfl fun D2 hk2 hb2 => ?_
      have hr2 : 1 < 9 ∧ 1 ≠ 3 ∧ 1 ≠ 7 := by decide
      have hx2 := cls_store hM hcl hsh hk2 hb2 ie1 hr2
      have hkr := hkr.mk1 hk2 hnr
      have hH2 := hH2.mk1 hk2 hn2
      have hH1 := hH1.mk1 hk2 hn1
      clear hb2 hk2 hr2
      obtain ⟨hM, hx2⟩ := hx2
      obtain ⟨cur, hB, hcl, hsh⟩ := hx2
      refine AL_nil ?_
      refine hK9 _ _ _ ?_
      refine AC_seq fun K10 hK10 => ?_
      refine AC_region ?_
      refine AL_ev (Ev_move) rfl ?_
      first | refine AL_ev (Ev_add rfl rfl _ (wrap_id (by first | omega | (simp; omega)) (by first | omega | (simp; omega)))) rfl ?_ | refine AL_ev (Ev_add rfl rfl _ rfl) rfl ?_
      refine AL_ev (Ev_assign) rfl ?_
      refine AL_nil ?_
      refine hK10 _ _ _ ?_
      refine AC_seq fun K11 hK11 => ?_
      refine AC_region ?_
      refine AL_ev (Ev_move) rfl ?_
      refine AL_ev (Ev_move) rfl ?_
      refine AL_ev (Ev_move) rfl ?_
      refine AL_ev (Ev_ix_raw rfl rfl te30 ts50 (by omega) (by first | omega | (simp; omega))) rfl ?_
      refine AL_ev (Ev_fa_raw rfl fa50_0) rfl ?_
      refine AL_ev (Ev_fa_raw rfl fa48_2) rfl ?_
      refine AL_rstore rfl rfl hB (lt9 hcl hlen hlt ie2 (by decide)) ts3 (by first | rfl | assumption) rfl fun D3 hk3 hb3 => ?_
      have hr3 : 2 < 9 ∧ 2 ≠ 3 ∧ 2 ≠ 7 := by decide
      have hx3 := cls_store hM hcl hsh hk3 hb3 ie2 hr3
      have hkr := hkr.mk1 hk3 hnr
      have hH2 := hH2.mk1 hk3 hn2
      have hH1 := hH1.mk1 hk3 hn1
      clear hb3 hk3 hr3
      obtain ⟨hM, hx3⟩ := hx3
      obtain ⟨cur, hB, hcl, hsh⟩ := hx3
      refine AL_nil ?_
      refine hK11 _ _ _ ?_
      refine AC_seq fun K12 hK12 => ?_
      refine AC_region ?_
      refine AL_ev (Ev_move) rfl ?_
      first | refine AL_ev (Ev_add rfl rfl _ (wrap_id (by first | omega | (simp; omega)) (by first | omega | (simp; omega)))) rfl ?_ | refine AL_ev (Ev_add rfl rfl _ rfl) rfl ?_
      refine AL_ev (Ev_assign) rfl ?_
      refine AL_nil ?_
      refine hK12 _ _ _ ?_
      refine AC_seq fun K13 hK13 => ?_
      refine AC_region ?_
      refine AL_ev (Ev_move) rfl ?_
      refine AL_ev (Ev_move) rfl ?_
      refine AL_ev (Ev_ix_raw rfl rfl te30 ts50 (by omega) (by first | omega | (simp; omega))) rfl ?_
      refine AL_ev (Ev_fa_raw rfl fa50_0) rfl ?_
      refine AL_ev (Ev_fa_raw rfl fa48_3) rfl ?_
      refine AL_ev (Ev_load_raw rfl hB (ixo ie3 (((hsh j hlt).1).trans hA1)) ts46 ta46 hs1) rfl ?_
      refine AL_ev (Ev_move) rfl ?_
      refine AL_mwk .one rfl cl44 (cast_m (by omega) rfl (c_markKids u.h (q + 3) (by omega) (by omega)).weak) hH1 rfl rfl rfl rfl rfl fun E1 hkE => ?_
      have hM := hM.trans hkE (fun x hx _ => by simp [hKj x (by simp [hx])])
      have hB := hB.marked hkE hn1
      have hkr := hkr.marked hkE (fun x hx h1 => hd1 x h1 (by simp [hx]))
      have hH2 := hH2.marked hkE (fun x hx h1 => hd1 x h1 (by simp [hx]))
      refine AL_ev (Ev_assign) rfl ?_
      refine AL_nil ?_
      refine hK13 _ _ _ ?_
      refine AC_seq fun K14 hK14 => ?_
      refine AC_region ?_
      refine AL_ev (Ev_move) rfl ?_
      refine AL_ev (Ev_move) rfl ?_
      refine AL_ev (Ev_move) rfl ?_
      refine AL_ev (Ev_ix_raw rfl rfl te30 ts50 (by omega) (by first | omega | (simp; omega))) rfl ?_
      refine AL_ev (Ev_fa_raw rfl fa50_1) rfl ?_
      refine AL_ev (Ev_fa_raw rfl fa48_0) rfl ?_
      refine AL_rstore rfl rfl hB (lt9 hcl hlen hlt ie4 (by decide)) ts3 (by first | rfl | assumption) rfl fun D4 hk4 hb4 => ?_
      have hr4 : 4 < 9 ∧ 4 ≠ 3 ∧ 4 ≠ 7 := by decide
      have hx4 := cls_store hM hcl hsh hk4 hb4 ie4 hr4
      have hkr := hkr.mk1 hk4 hnr
      have hH2 := hH2.mk1 hk4 hn2
      clear hb4 hk4 hr4
      obtain ⟨hM, hx4⟩ := hx4
      obtain ⟨cur, hB, hcl, hsh⟩ := hx4
      refine AL_nil ?_
      refine hK14 _ _ _ ?_
      refine AC_seq fun K15 hK15 => ?_
      refine AC_region ?_
      refine AL_ev (Ev_move) rfl ?_
      first | refine AL_ev (Ev_add rfl rfl _ (wrap_id (by first | omega | (simp; omega)) (by first | omega | (simp; omega)))) rfl ?_ | refine AL_ev (Ev_add rfl rfl _ rfl) rfl ?_
      refine AL_ev (Ev_assign) rfl ?_
      refine AL_nil ?_
      refine hK15 _ _ _ ?_
      refine AC_seq fun K16 hK16 => ?_
      refine AC_region ?_
      refine AL_ev (Ev_move) rfl ?_
      refine AL_ev (Ev_move) rfl ?_
      refine AL_ev (Ev_move) rfl ?_
      refine AL_fcallz rfl cl43 (c_markText (q + 3 + cntL u.h.kids + 1) (by omega)) rfl rfl ?_
      refine AL_ev (Ev_ix_raw rfl rfl te30 ts50 (by omega) (by first | omega | (simp; omega))) rfl ?_
      refine AL_ev (Ev_fa_raw rfl fa50_1) rfl ?_
      refine AL_ev (Ev_fa_raw rfl fa48_1) rfl ?_
      refine AL_rstore rfl rfl hB (lt9 hcl hlen hlt ie5 (by decide)) ts9 (by first | rfl | assumption) rfl fun D5 hk5 hb5 => ?_
      have hr5 : 5 < 9 ∧ 5 ≠ 3 ∧ 5 ≠ 7 := by decide
      have hx5 := cls_store hM hcl hsh hk5 hb5 ie5 hr5
      have hkr := hkr.mk1 hk5 hnr
      have hH2 := hH2.mk1 hk5 hn2
      clear hb5 hk5 hr5
      obtain ⟨hM, hx5⟩ := hx5
      obtain ⟨cur, hB, hcl, hsh⟩ := hx5
      refine AL_nil ?_
      refine hK16 _ _ _ ?_
      refine AC_seq fun K17 hK17 => ?_
      refine AC_region ?_
      refine AL_ev (Ev_move) rfl ?_
      first | refine AL_ev (Ev_add rfl rfl _ (wrap_id (by first | omega | (simp; omega)) (by first | omega | (simp; omega)))) rfl ?_ | refine AL_ev (Ev_add rfl rfl _ rfl) rfl ?_
      refine AL_ev (Ev_assign) rfl ?_
      refine AL_nil ?_
      refine hK17 _ _ _ ?_
      refine AC_seq fun K18 hK18 => ?_
      refine AC_region ?_
      refine AL_ev (Ev_move) rfl ?_
      refine AL_ev (Ev_move) rfl ?_
      refine AL_ev (Ev_move) rfl ?_
      refine AL_ev (Ev_ix_raw rfl rfl te30 ts50 (by omega) (by first | omega | (simp; omega))) rfl ?_
      refine AL_ev (Ev_fa_raw rfl fa50_1) rfl ?_
      refine AL_ev (Ev_fa_raw rfl fa48_2) rfl ?_
      refine AL_rstore rfl rfl hB (lt9 hcl hlen hlt ie6 (by decide)) ts3 (by first | rfl | assumption) rfl fun D6 hk6 hb6 => ?_
      have hr6 : 6 < 9 ∧ 6 ≠ 3 ∧ 6 ≠ 7 := by decide
      have hx6 := cls_store hM hcl hsh hk6 hb6 ie6 hr6
      have hkr := hkr.mk1 hk6 hnr
      have hH2 := hH2.mk1 hk6 hn2
      clear hb6 hk6 hr6
      obtain ⟨hM, hx6⟩ := hx6
      obtain ⟨cur, hB, hcl, hsh⟩ := hx6
      refine AL_nil ?_
      refine hK18 _ _ _ ?_
      refine AC_seq fun K19 hK19 => ?_
      refine AC_region ?_
      refine AL_ev (Ev_move) rfl ?_
      first | refine AL_ev (Ev_add rfl rfl _ (wrap_id (by first | omega | (simp; omega)) (by first | omega | (simp; omega)))) rfl ?_ | refine AL_ev (Ev_add rfl rfl _ rfl) rfl ?_
      refine AL_ev (Ev_assign) rfl ?_
      refine AL_nil ?_
      refine hK19 _ _ _ ?_
      refine AC_seq fun K20 hK20 => ?_
      refine AC_region ?_
      refine AL_ev (Ev_move) rfl ?_
      refine AL_ev (Ev_move) rfl ?_
      refine AL_ev (Ev_ix_raw rfl rfl te30 ts50 (by omega) (by first | omega | (simp; omega))) rfl ?_
      refine AL_ev (Ev_fa_raw rfl fa50_1) rfl ?_
      refine AL_ev (Ev_fa_raw rfl fa48_3) rfl ?_
      refine AL_ev (Ev_load_raw rfl hB (ixo ie7 (((hsh j hlt).2).trans hA2)) ts46 ta46 hs2) rfl ?_
      refine AL_ev (Ev_move) rfl ?_
      refine AL_mwk .one rfl cl44 (cast_m (by omega) rfl (c_markKids u.b (q + 6 + cntL u.h.kids) (by omega) (by omega)).weak) hH2 rfl rfl rfl rfl rfl fun E2 hkE => ?_
      have hM := hM.trans hkE (fun x hx _ => by simp [hKj x (by simp [hx])])
      have hB := hB.marked hkE hn2
      have hkr := hkr.marked hkE (fun x hx h1 => hd2 x h1 hx)
      refine AL_ev (Ev_assign) rfl ?_
      refine AL_nil ?_
      refine hK20 _ _ _ ?_
      refine AC_seq fun K21 hK21 => ?_
      refine AC_region ?_
      refine AL_ev (Ev_move) rfl ?_
      refine AL_ev (Ev_move) rfl ?_
      refine AL_ev (Ev_move) rfl ?_
      refine AL_fcallz rfl cl43 (c_markText (q + 6 + cntL u.h.kids + cntL u.b.kids) (by omega)) rfl rfl ?_
      refine AL_ev (Ev_ix_raw rfl rfl te30 ts50 (by omega) (by first | omega | (simp; omega))) rfl ?_
      refine AL_ev (Ev_fa_raw rfl fa50_2) rfl ?_
      refine AL_rstore rfl rfl hB (lt9 hcl hlen hlt ie8 (by decide)) ts9 (by first | rfl | assumption) rfl fun D7 hk7 hb7 => ?_
      have hr7 : 8 < 9 ∧ 8 ≠ 3 ∧ 8 ≠ 7 := by decide
      have hx7 := cls_store hM hcl hsh hk7 hb7 ie8 hr7
      have hkr := hkr.mk1 hk7 hnr
      clear hb7 hk7 hr7
      obtain ⟨hM, hx7⟩ := hx7
      obtain ⟨cur, hB, hcl, hsh⟩ := hx7
      refine AL_nil ?_
      refine hK21 _ _ _ ?_
      refine AC_region ?_
      refine AL_ev (Ev_move) rfl ?_
      first | refine AL_ev (Ev_add rfl rfl _ (wrap_id (by first | omega | (simp; omega)) (by first | omega | (simp; omega)))) rfl ?_ | refine AL_ev (Ev_add rfl rfl _ rfl) rfl ?_
      refine AL_ev (Ev_assign) rfl ?_
      refine AL_nil ?_
      refine hK6 _ _ _ ?_
      refine AC_region ?_
      refine AL_ev (Ev_move) rfl ?_
      first | refine AL_ev (Ev_add rfl rfl _ (wrap_id (by first | omega | (simp; omega)) (by first | omega | (simp; omega)))) rfl ?_ | refine AL_ev (Ev_add rfl rfl _ rfl) rfl ?_
      refine AL_ev (Ev_assign) rfl ?_
      refine AL_nil ?_
      refine closeX (j + 1, q + cntC u, cur, Kr2) [] rfl rfl (by show cs0.length - (j + 1) < cs0.length - j; omega) ⟨hlt, by show q + cntC u = _; rw [cntCs_take hu]; omega, hM, hB, hcl, hsh, hkr, fun x hx => hKr x (by simp [hx])⟩ BxTo_nil (SlTo_cons (Vw_int (by show _ = q + cntC u; unfold cntC; omega)) (SlTo_cons (Vw_int (by show _ = ((j + 1 : Nat) : Int); omega)) (SlTo_cons (by first | exact .rd .d | exact .ptr rfl | exact .ref rfl | exact .any | exact Vw_int (by omega)) SlTo_nil)))
    · skip
      refine AC_exit ?_
      refine hK2 _ _ _ ?_
      refine AC_seq fun K22 hK22 => ?_
      refine AC_region ?_
      refine AL_ev (Ev_move) rfl ?_
      refine AL_ev (Ev_assign) rfl ?_
      refine AL_nil ?_
      refine hK22 _ _ _ ?_
      refine AC_ret ?_
      have hj2 : j = cs0.length := by
        have : ¬ j < cs0.length := by simpa using hc1
        omega
      subst hj2
      rw [List.take_length] at hq
      subst hq
      exact retMW_ok hM hdm (.tmp rfl rfl .nil)

set_option maxHeartbeats 1000000 in
set_option maxRecDepth 4000 in
theorem c_markDb (d : Dbt) (k : Int) (hk0 : 0 ≤ k) (hk9 : k + cntCs d.cs + d.op.length ≤ 1099511627776) : MWk Tryd.prog 10 (injD d) (k) (k + cntCs d.cs + d.op.length) := by
  have hn1 := cntCs_nn d.cs
  refine MWk_of (n := 14) LD Tryd.func10 rfl rfl (by decide) (injD_lenL d) (injD_agL d) fun C0 cs K hdm hh hcl => ?_
  obtain ⟨A1, A2, M1, M2, rfl, rfl, hdj, hH1, hH2⟩ := D_cells hh
  refine AC_seq fun K1 hK1 => ?_
  refine AC_region ?_
  refine AL_box (Lay.st [.one, .one]) (nf rfl) rfl (by first | rfl | simp [Lay.len, Lay.lens]) _ rfl rfl ?_
  refine AL_ev (Ev_assign) rfl ?_
  refine AL_nil ?_
  refine hK1 _ _ _ ?_
  refine AC_seq fun K2 hK2 => ?_
  refine AC_region ?_
  first | refine AL_ev (Ev_fa_ptr rfl fa32_0 rfl rfl) rfl ?_ | refine AL_ev (Ev_fa_rp rfl fa32_0 rfl rfl) rfl ?_
  first | refine AL_ev (Ev_load_ptr rfl rfl rfl rfl rfl rfl ts30 ta30 rfl (fun _ => rfl)) rfl ?_ | refine AL_ev (Ev_load_rp rfl rfl rfl ts30 ta30 rfl (fun _ => rfl)) rfl ?_
  refine AL_ev (Ev_move) rfl ?_
  refine AL_mwk .one rfl cl29 (c_markClauseS d.cs k hk0 (by omega)) hH1 rfl rfl rfl rfl rfl fun E1 hk1 => ?_
  have hH2 := hH2.marked hk1 (fun b hb hb2 => hdj b hb2 hb)
  refine AL_ev (Ev_assign) rfl ?_
  refine AL_nil ?_
  refine hK2 _ _ _ ?_
  refine AC_seq fun K3 hK3 => ?_
  refine AC_region ?_
  first | refine AL_ev (Ev_fa_ptr rfl fa32_1 rfl rfl) rfl ?_ | refine AL_ev (Ev_fa_rp rfl fa32_1 rfl rfl) rfl ?_
  first | refine AL_ev (Ev_load_ptr rfl rfl rfl rfl rfl rfl ts23 ta23 rfl (fun _ => rfl)) rfl ?_ | refine AL_ev (Ev_load_rp rfl rfl rfl ts23 ta23 rfl (fun _ => rfl)) rfl ?_
  refine AL_ev (Ev_move) rfl ?_
  refine AL_mwk .one rfl cl30 (c_markStringS d.op (k + cntCs d.cs) (by omega) (by omega)).weak hH2 rfl rfl rfl rfl rfl fun E2 hk2 => ?_
  have hM := (hk1.mono (K' := M1 ++ M2) (fun b hb => by simp [hb])).trans hk2 (fun b hb _ => by simp [hb])
  refine AL_ev (Ev_assign) rfl ?_
  refine AL_nil ?_
  refine hK3 _ _ _ ?_
  refine AC_seq fun K4 hK4 => ?_
  refine AC_region ?_
  refine AL_ev (Ev_move) rfl ?_
  refine AL_ev (Ev_assign) rfl ?_
  refine AL_nil ?_
  refine hK4 _ _ _ ?_
  refine AC_ret ?_
  exact retMW_ok hM hdm (.tmp rfl rfl .nil)

end Go.Proofs.YtjhdkjacfclipaaDoor
