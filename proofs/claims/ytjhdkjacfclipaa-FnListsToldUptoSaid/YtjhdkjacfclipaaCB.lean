/- Contracts of functions. -/
import Derived.Test.YtjhdkjacfclipaaMt
import Derived.Test.YtjhdkjacfclipaaOk
import Derived.Test.YtjhdkjacfclipaaWn
import Derived.Test.YtjhdkjacfclipaaEng27
import Derived.Test.YtjhdkjacfclipaaProg
import Derived.KernelRfl
import Derived.Test.YtjhdkjacfclipaaCA
set_option linter.unusedVariables false
set_option linter.unusedSimpArgs false
namespace Go.Proofs.Ytjhdkjacfclipaa
open Go.Eng

theorem cl105 : Callable Try.prog 105 := Callable_of Try.func105 (by kernel_rfl) (by kernel_rfl)
theorem cl106 : Callable Try.prog 106 := Callable_of Try.func106 (by kernel_rfl) (by kernel_rfl)
theorem cl70 : Callable Try.prog 70 := Callable_of Try.func70 (by kernel_rfl) (by kernel_rfl)
theorem cl80 : Callable Try.prog 80 := Callable_of Try.func80 (by kernel_rfl) (by kernel_rfl)
theorem cl81 : Callable Try.prog 81 := Callable_of Try.func81 (by kernel_rfl) (by kernel_rfl)
theorem cl92 : Callable Try.prog 92 := Callable_of Try.func92 (by kernel_rfl) (by kernel_rfl)
theorem cl93 : Callable Try.prog 93 := Callable_of Try.func93 (by kernel_rfl) (by kernel_rfl)
theorem cl98 : Callable Try.prog 98 := Callable_of Try.func98 (by kernel_rfl) (by kernel_rfl)
theorem fa35_1 : tyField Try.prog 35 1 = some (1, true) := by kernel_rfl
theorem ta9 : tyAgg Try.prog 9 = some false := by kernel_rfl
theorem tint3 : tyInt Try.prog 3 = some .i64 := by kernel_rfl
theorem ts9 : tySize Try.prog 9 = some 1 := by kernel_rfl
theorem tstr9 : tyStr Try.prog 9 = true := by kernel_rfl
theorem tund5 : (Try.prog.underlying 5).isSome = true := by kernel_rfl

set_option maxHeartbeats 1000000 in
set_option maxRecDepth 4000 in
theorem c_within (n a b : Int) : PCall Try.prog 92 [.c (.int .i64 n), .c (.int .i64 a), .c (.int .i64 b)] (· = [.c (.bool (inB n a b))]) := by
  refine PCall_of (n := 15) Try.func92 rfl rfl (Nat.le_of_ble_eq_true rfl) fun C hdm hT0 => ?_
  have hT := hT0
  refine AC_seq fun K1 hK1 => ?_
  refine AC_region ?_
  refine AL_ev (Ev_assign) rfl ?_
  refine AL_nil ?_
  refine hK1 _ _ _ ?_
  refine AC_seq fun K2 hK2 => ?_
  refine AC_region ?_
  refine AL_ev (Ev_move) rfl ?_
  refine AL_ev (Ev_move) rfl ?_
  refine AL_ev (Ev_geq rfl rfl) rfl ?_
  refine AL_ev (Ev_move) rfl ?_
  refine AL_bool 10 rfl (fun hg1 => ?_) (fun hg1 => ?_)
  · skip
    refine AL_guard_t rfl rfl rfl ?_
    refine AL_ev (Ev_move) rfl ?_
    refine AL_guard_t rfl rfl rfl ?_
    refine AL_ev (Ev_move) rfl ?_
    refine AL_guard_t rfl rfl rfl ?_
    refine AL_ev (Ev_leq rfl rfl) rfl ?_
    refine AL_ev (Ev_pick rfl) rfl ?_
    refine AL_ev (Ev_assign) rfl ?_
    refine AL_nil ?_
    refine hK2 _ _ _ ?_
    refine AC_ret ?_
    refine ret_ok hdm (.tmp rfl rfl .nil) (.cons .d .nil) ?_
    try rw [hI]
    try rw [hdr]
    try simp_all [List.length_pos_iff, inB]
    try omega
  · skip
    refine AL_guard_f rfl rfl rfl rfl ?_
    refine AL_guard_f rfl rfl rfl rfl ?_
    refine AL_guard_f rfl rfl rfl rfl ?_
    refine AL_ev (Ev_pick rfl) rfl ?_
    refine AL_ev (Ev_assign) rfl ?_
    refine AL_nil ?_
    refine hK2 _ _ _ ?_
    refine AC_ret ?_
    refine ret_ok hdm (.tmp rfl rfl .nil) (.cons .d .nil) ?_
    try rw [hI]
    try rw [hdr]
    try simp_all [List.length_pos_iff, inB]
    try omega

set_option maxHeartbeats 1000000 in
set_option maxRecDepth 4000 in
theorem c_l01In (n a b : Int) : PCall Try.prog 105 [.c (.int .i64 n), .c (.int .i64 a), .c (.int .i64 b)] (· = [.c (.bool (inB n a b))]) := by
  refine PCall_of (n := 15) Try.func105 rfl rfl (Nat.le_of_ble_eq_true rfl) fun C hdm hT0 => ?_
  have hT := hT0
  refine AC_seq fun K1 hK1 => ?_
  refine AC_region ?_
  refine AL_ev (Ev_assign) rfl ?_
  refine AL_nil ?_
  refine hK1 _ _ _ ?_
  refine AC_seq fun K2 hK2 => ?_
  refine AC_region ?_
  refine AL_ev (Ev_move) rfl ?_
  refine AL_ev (Ev_move) rfl ?_
  refine AL_ev (Ev_geq rfl rfl) rfl ?_
  refine AL_ev (Ev_move) rfl ?_
  refine AL_bool 10 rfl (fun hg1 => ?_) (fun hg1 => ?_)
  · skip
    refine AL_guard_t rfl rfl rfl ?_
    refine AL_ev (Ev_move) rfl ?_
    refine AL_guard_t rfl rfl rfl ?_
    refine AL_ev (Ev_move) rfl ?_
    refine AL_guard_t rfl rfl rfl ?_
    refine AL_ev (Ev_leq rfl rfl) rfl ?_
    refine AL_ev (Ev_pick rfl) rfl ?_
    refine AL_ev (Ev_assign) rfl ?_
    refine AL_nil ?_
    refine hK2 _ _ _ ?_
    refine AC_ret ?_
    refine ret_ok hdm (.tmp rfl rfl .nil) (.cons .d .nil) ?_
    try rw [hI]
    try rw [hdr]
    try simp_all [List.length_pos_iff, inB]
    try omega
  · skip
    refine AL_guard_f rfl rfl rfl rfl ?_
    refine AL_guard_f rfl rfl rfl rfl ?_
    refine AL_guard_f rfl rfl rfl rfl ?_
    refine AL_ev (Ev_pick rfl) rfl ?_
    refine AL_ev (Ev_assign) rfl ?_
    refine AL_nil ?_
    refine hK2 _ _ _ ?_
    refine AC_ret ?_
    refine ret_ok hdm (.tmp rfl rfl .nil) (.cons .d .nil) ?_
    try rw [hI]
    try rw [hdr]
    try simp_all [List.length_pos_iff, inB]
    try omega

set_option maxHeartbeats 1000000 in
set_option maxRecDepth 4000 in
theorem c_nameOk (s : ByteArray) (hs : s.size ≤ 1099511627776) : PCall Try.prog 93 [.c (.string s)] (· = [.c (.bool (nameB s))]) := by
  refine PCall_of (n := 31) Try.func93 rfl rfl (Nat.le_of_ble_eq_true rfl) fun C hdm hT0 => ?_
  have hT := hT0
  refine AC_seq fun K1 hK1 => ?_
  refine AC_region ?_
  refine AL_ev (Ev_assign) rfl ?_
  refine AL_nil ?_
  refine hK1 _ _ _ ?_
  refine AC_seq fun K2 hK2 => ?_
  refine AC_seq fun K3 hK3 => ?_
  refine AC_region ?_
  refine AL_ev (Ev_assign) rfl ?_
  refine AL_nil ?_
  refine hK3 _ _ _ ?_
  refine AC_block ?_
  refine AC_loopS [0] (Nat) (fun j => [(3, i64 j)]) (fun j => []) (fun st => (bts s).length - st) (fun j => j ≤ (bts s).length ∧ chsOk (bts s) = chsOk ((bts s).drop j)) (0) ?_ ?_ ?_
  · skip
    exact enterS [] rfl rfl BxTo_nil (SlTo_cons (by first | exact .rd .d | exact Vw_int (by first | rfl | assumption | omega | (simp; done) | (simp; omega)) | exact Vw_c (by first | rfl | (simp; done) | simp_all) | exact .any) (SlTo_cons (by first | exact .rd .d | exact .any) SlTo_nil))
  · skip
    exact ⟨Nat.zero_le _, by simp⟩
  rintro j ⟨hj, hI⟩
  show AC _ _ _ _ _ (FS [0] _ [(3, i64 j)]) []
  have hlb : (bts s).length ≤ 1099511627776 := by simpa using hs
  refine AC_seq fun K4 hK4 => ?_
  refine AC_seq fun K5 hK5 => ?_
  refine AC_region ?_
  refine AL_ev (Ev_move) rfl ?_
  refine AL_ev (Ev_move) rfl ?_
  refine AL_ev (Ev_len_str tstr9 rfl) rfl ?_
  refine AL_ev (Ev_lss rfl rfl) rfl ?_
  refine AL_nil ?_
  refine hK5 _ _ _ ?_
  refine AC_cond rfl (fun hc1 => ?_) (fun hc1 => ?_)
  · skip
    have hlt : j < (bts s).length := by simpa using hc1
    obtain ⟨u, hu⟩ : ∃ x, (bts s)[j]? = some x := ⟨_, List.getElem?_eq_getElem hlt⟩
    have hu2 := bts_get hu
    have hdr := drop_get hu
    have hc8 := UInt8.toNat_lt u
    refine AC_skip ?_
    refine hK4 _ _ _ ?_
    refine AC_seq fun K6 hK6 => ?_
    refine AC_block ?_
    refine AC_seq fun K7 hK7 => ?_
    refine AC_region ?_
    refine AL_ev (Ev_move) rfl ?_
    refine AL_ev (Ev_move) rfl ?_
    refine AL_ev (Ev_ix_str tstr9 rfl rfl (by omega) (by assumption)) rfl ?_
    first | refine AL_ev (Ev_conv_int tund5 tint3 rfl _ (wrap_id (by omega) (by omega))) rfl ?_ | refine AL_ev (Ev_conv_int tund5 tint3 rfl _ rfl) rfl ?_
    refine AL_fcall0 hT rfl cl92 (c_within u.toNat 33 126) rfl rfl ?_
    refine AL_ev (Ev_not rfl) rfl ?_
    refine AL_ev (Ev_move) rfl ?_
    refine AL_bool 16 rfl (fun hg2 => ?_) (fun hg2 => ?_)
    · skip
      refine AL_guard_f rfl rfl rfl rfl ?_
      refine AL_guard_f rfl rfl rfl rfl ?_
      refine AL_guard_f rfl rfl rfl rfl ?_
      refine AL_guard_f rfl rfl rfl rfl ?_
      refine AL_ev (Ev_pick rfl) rfl ?_
      refine AL_ev (Ev_move) rfl ?_
      refine AL_guard_f rfl rfl rfl rfl ?_
      refine AL_guard_f rfl rfl rfl rfl ?_
      refine AL_guard_f rfl rfl rfl rfl ?_
      refine AL_guard_f rfl rfl rfl rfl ?_
      refine AL_ev (Ev_pick rfl) rfl ?_
      refine AL_nil ?_
      refine hK7 _ _ _ ?_
      refine AC_cond_t rfl ?_
      refine AC_seq fun K8 hK8 => ?_
      refine AC_region ?_
      refine AL_ev (Ev_assign) rfl ?_
      refine AL_nil ?_
      refine hK8 _ _ _ ?_
      refine AC_ret ?_
      refine ret_ok hdm (.tmp rfl rfl .nil) (.cons .d .nil) ?_
      try rw [nameB]
      try rw [hI]
      try rw [hdr]
      try simp_all [List.length_pos_iff, chsOk, chOk, inB]
      try omega
    · skip
      refine AL_guard_t rfl rfl rfl ?_
      refine AL_ev (Ev_move) rfl ?_
      refine AL_guard_t rfl rfl rfl ?_
      refine AL_ev (Ev_move) rfl ?_
      refine AL_guard_t rfl rfl rfl ?_
      refine AL_ev (Ev_ix_str tstr9 rfl rfl (by omega) (by assumption)) rfl ?_
      refine AL_guard_t rfl rfl rfl ?_
      refine AL_ev (Ev_eql rfl rfl) rfl ?_
      refine AL_ev (Ev_pick rfl) rfl ?_
      refine AL_ev (Ev_move) rfl ?_
      refine AL_bool 22 rfl (fun hg3 => ?_) (fun hg3 => ?_)
      · skip
        refine AL_guard_f rfl rfl rfl rfl ?_
        refine AL_guard_f rfl rfl rfl rfl ?_
        refine AL_guard_f rfl rfl rfl rfl ?_
        refine AL_guard_f rfl rfl rfl rfl ?_
        refine AL_ev (Ev_pick rfl) rfl ?_
        refine AL_nil ?_
        refine hK7 _ _ _ ?_
        refine AC_cond_t rfl ?_
        refine AC_seq fun K9 hK9 => ?_
        refine AC_region ?_
        refine AL_ev (Ev_assign) rfl ?_
        refine AL_nil ?_
        refine hK9 _ _ _ ?_
        refine AC_ret ?_
        refine ret_ok hdm (.tmp rfl rfl .nil) (.cons .d .nil) ?_
        try rw [nameB]
        try rw [hI]
        try rw [hdr]
        try simp_all [List.length_pos_iff, chsOk, chOk, inB]
        try omega
      · skip
        refine AL_guard_t rfl rfl rfl ?_
        refine AL_ev (Ev_move) rfl ?_
        refine AL_guard_t rfl rfl rfl ?_
        refine AL_ev (Ev_move) rfl ?_
        refine AL_guard_t rfl rfl rfl ?_
        refine AL_ev (Ev_ix_str tstr9 rfl rfl (by omega) (by assumption)) rfl ?_
        refine AL_guard_t rfl rfl rfl ?_
        refine AL_ev (Ev_eql rfl rfl) rfl ?_
        refine AL_ev (Ev_pick rfl) rfl ?_
        refine AL_nil ?_
        refine hK7 _ _ _ ?_
        refine AC_cond rfl (fun hc4 => ?_) (fun hc4 => ?_)
        · skip
          refine AC_seq fun K10 hK10 => ?_
          refine AC_region ?_
          refine AL_ev (Ev_assign) rfl ?_
          refine AL_nil ?_
          refine hK10 _ _ _ ?_
          refine AC_ret ?_
          refine ret_ok hdm (.tmp rfl rfl .nil) (.cons .d .nil) ?_
          try rw [nameB]
          try rw [hI]
          try rw [hdr]
          try simp_all [List.length_pos_iff, chsOk, chOk, inB]
          try omega
        · skip
          refine AC_skip ?_
          refine hK6 _ _ _ ?_
          refine AC_region ?_
          refine AL_ev (Ev_move) rfl ?_
          first | refine AL_ev (Ev_add rfl rfl _ (wrap_id (by first | omega | (simp; omega)) (by first | omega | (simp; omega)))) rfl ?_ | refine AL_ev (Ev_add rfl rfl _ rfl) rfl ?_
          refine AL_ev (Ev_assign) rfl ?_
          refine AL_nil ?_
          refine closeS (j + 1) [] rfl rfl (by show (bts s).length - (j + 1) < (bts s).length - j; omega) ⟨hlt, ?_⟩ BxTo_nil (SlTo_cons (by first | exact .rd .d | exact Vw_int (by first | rfl | assumption | omega | (simp; done) | (simp; omega)) | exact Vw_c (by first | rfl | (simp; done) | simp_all) | exact .any) (SlTo_cons (by first | exact .rd .d | exact .any) SlTo_nil))
          rw [hI]
          try rw [hdr]
          try simp_all [chsOk, chOk, inB]
          try omega
  · skip
    have hj2 : j = (bts s).length := by
      have : ¬ j < (bts s).length := by simpa using hc1
      omega
    subst hj2
    rw [List.drop_length] at hI
    refine AC_exit ?_
    refine hK2 _ _ _ ?_
    refine AC_seq fun K11 hK11 => ?_
    refine AC_region ?_
    refine AL_ev (Ev_move) rfl ?_
    refine AL_ev (Ev_len_str tstr9 rfl) rfl ?_
    refine AL_fcall0 hT rfl cl92 (c_within s.size 1 20) rfl rfl ?_
    refine AL_ev (Ev_assign) rfl ?_
    refine AL_nil ?_
    refine hK11 _ _ _ ?_
    refine AC_ret ?_
    refine ret_ok hdm (.tmp rfl rfl .nil) (.cons .d .nil) ?_
    try rw [nameB]
    try rw [hI]
    try rw [hdr]
    try simp_all [List.length_pos_iff, chsOk, chOk, inB]
    try omega

set_option maxHeartbeats 1000000 in
set_option maxRecDepth 4000 in
theorem c_l03Name (s : ByteArray) (hs : s.size ≤ 1099511627776) : PCall Try.prog 106 [.c (.string s)] (· = [.c (.bool (nameB s))]) := by
  refine PCall_of (n := 35) Try.func106 rfl rfl (Nat.le_of_ble_eq_true rfl) fun C hdm hT0 => ?_
  have hT := hT0
  refine AC_seq fun K1 hK1 => ?_
  refine AC_region ?_
  refine AL_ev (Ev_assign) rfl ?_
  refine AL_nil ?_
  refine hK1 _ _ _ ?_
  refine AC_seq fun K2 hK2 => ?_
  refine AC_seq fun K3 hK3 => ?_
  refine AC_region ?_
  refine AL_ev (Ev_assign) rfl ?_
  refine AL_nil ?_
  refine hK3 _ _ _ ?_
  refine AC_block ?_
  refine AC_loopS [0] (Nat) (fun j => [(3, i64 j)]) (fun j => []) (fun st => (bts s).length - st) (fun j => j ≤ (bts s).length ∧ chsOk (bts s) = chsOk ((bts s).drop j)) (0) ?_ ?_ ?_
  · skip
    exact enterS [] rfl rfl BxTo_nil (SlTo_cons (by first | exact .rd .d | exact Vw_int (by first | rfl | assumption | omega | (simp; done) | (simp; omega)) | exact Vw_c (by first | rfl | (simp; done) | simp_all) | exact .any) (SlTo_cons (by first | exact .rd .d | exact .any) SlTo_nil))
  · skip
    exact ⟨Nat.zero_le _, by simp⟩
  rintro j ⟨hj, hI⟩
  show AC _ _ _ _ _ (FS [0] _ [(3, i64 j)]) []
  have hlb : (bts s).length ≤ 1099511627776 := by simpa using hs
  refine AC_seq fun K4 hK4 => ?_
  refine AC_seq fun K5 hK5 => ?_
  refine AC_region ?_
  refine AL_ev (Ev_move) rfl ?_
  refine AL_ev (Ev_move) rfl ?_
  refine AL_ev (Ev_len_str tstr9 rfl) rfl ?_
  refine AL_ev (Ev_lss rfl rfl) rfl ?_
  refine AL_nil ?_
  refine hK5 _ _ _ ?_
  refine AC_cond rfl (fun hc1 => ?_) (fun hc1 => ?_)
  · skip
    have hlt : j < (bts s).length := by simpa using hc1
    obtain ⟨u, hu⟩ : ∃ x, (bts s)[j]? = some x := ⟨_, List.getElem?_eq_getElem hlt⟩
    have hu2 := bts_get hu
    have hdr := drop_get hu
    have hc8 := UInt8.toNat_lt u
    refine AC_skip ?_
    refine hK4 _ _ _ ?_
    refine AC_seq fun K6 hK6 => ?_
    refine AC_block ?_
    refine AC_seq fun K7 hK7 => ?_
    refine AC_region ?_
    refine AL_ev (Ev_move) rfl ?_
    refine AL_ev (Ev_move) rfl ?_
    refine AL_ev (Ev_ix_str tstr9 rfl rfl (by omega) (by assumption)) rfl ?_
    refine AL_ev (Ev_lss rfl rfl) rfl ?_
    refine AL_ev (Ev_move) rfl ?_
    refine AL_bool 14 rfl (fun hg2 => ?_) (fun hg2 => ?_)
    · skip
      refine AL_guard_f rfl rfl rfl rfl ?_
      refine AL_guard_f rfl rfl rfl rfl ?_
      refine AL_guard_f rfl rfl rfl rfl ?_
      refine AL_guard_f rfl rfl rfl rfl ?_
      refine AL_ev (Ev_pick rfl) rfl ?_
      refine AL_ev (Ev_move) rfl ?_
      refine AL_guard_f rfl rfl rfl rfl ?_
      refine AL_guard_f rfl rfl rfl rfl ?_
      refine AL_guard_f rfl rfl rfl rfl ?_
      refine AL_guard_f rfl rfl rfl rfl ?_
      refine AL_ev (Ev_pick rfl) rfl ?_
      refine AL_ev (Ev_move) rfl ?_
      refine AL_guard_f rfl rfl rfl rfl ?_
      refine AL_guard_f rfl rfl rfl rfl ?_
      refine AL_guard_f rfl rfl rfl rfl ?_
      refine AL_guard_f rfl rfl rfl rfl ?_
      refine AL_ev (Ev_pick rfl) rfl ?_
      refine AL_nil ?_
      refine hK7 _ _ _ ?_
      refine AC_cond_t rfl ?_
      refine AC_seq fun K8 hK8 => ?_
      refine AC_region ?_
      refine AL_ev (Ev_assign) rfl ?_
      refine AL_nil ?_
      refine hK8 _ _ _ ?_
      refine AC_ret ?_
      refine ret_ok hdm (.tmp rfl rfl .nil) (.cons .d .nil) ?_
      try rw [nameB]
      try rw [hI]
      try rw [hdr]
      try simp_all [List.length_pos_iff, chsOk, chOk, inB]
      try omega
    · skip
      refine AL_guard_t rfl rfl rfl ?_
      refine AL_ev (Ev_move) rfl ?_
      refine AL_guard_t rfl rfl rfl ?_
      refine AL_ev (Ev_move) rfl ?_
      refine AL_guard_t rfl rfl rfl ?_
      refine AL_ev (Ev_ix_str tstr9 rfl rfl (by omega) (by assumption)) rfl ?_
      refine AL_guard_t rfl rfl rfl ?_
      refine AL_ev (Ev_gtr rfl rfl) rfl ?_
      refine AL_ev (Ev_pick rfl) rfl ?_
      refine AL_ev (Ev_move) rfl ?_
      refine AL_bool 20 rfl (fun hg3 => ?_) (fun hg3 => ?_)
      · skip
        refine AL_guard_f rfl rfl rfl rfl ?_
        refine AL_guard_f rfl rfl rfl rfl ?_
        refine AL_guard_f rfl rfl rfl rfl ?_
        refine AL_guard_f rfl rfl rfl rfl ?_
        refine AL_ev (Ev_pick rfl) rfl ?_
        refine AL_ev (Ev_move) rfl ?_
        refine AL_guard_f rfl rfl rfl rfl ?_
        refine AL_guard_f rfl rfl rfl rfl ?_
        refine AL_guard_f rfl rfl rfl rfl ?_
        refine AL_guard_f rfl rfl rfl rfl ?_
        refine AL_ev (Ev_pick rfl) rfl ?_
        refine AL_nil ?_
        refine hK7 _ _ _ ?_
        refine AC_cond_t rfl ?_
        refine AC_seq fun K9 hK9 => ?_
        refine AC_region ?_
        refine AL_ev (Ev_assign) rfl ?_
        refine AL_nil ?_
        refine hK9 _ _ _ ?_
        refine AC_ret ?_
        refine ret_ok hdm (.tmp rfl rfl .nil) (.cons .d .nil) ?_
        try rw [nameB]
        try rw [hI]
        try rw [hdr]
        try simp_all [List.length_pos_iff, chsOk, chOk, inB]
        try omega
      · skip
        refine AL_guard_t rfl rfl rfl ?_
        refine AL_ev (Ev_move) rfl ?_
        refine AL_guard_t rfl rfl rfl ?_
        refine AL_ev (Ev_move) rfl ?_
        refine AL_guard_t rfl rfl rfl ?_
        refine AL_ev (Ev_ix_str tstr9 rfl rfl (by omega) (by assumption)) rfl ?_
        refine AL_guard_t rfl rfl rfl ?_
        refine AL_ev (Ev_eql rfl rfl) rfl ?_
        refine AL_ev (Ev_pick rfl) rfl ?_
        refine AL_ev (Ev_move) rfl ?_
        refine AL_bool 26 rfl (fun hg4 => ?_) (fun hg4 => ?_)
        · skip
          refine AL_guard_f rfl rfl rfl rfl ?_
          refine AL_guard_f rfl rfl rfl rfl ?_
          refine AL_guard_f rfl rfl rfl rfl ?_
          refine AL_guard_f rfl rfl rfl rfl ?_
          refine AL_ev (Ev_pick rfl) rfl ?_
          refine AL_nil ?_
          refine hK7 _ _ _ ?_
          refine AC_cond_t rfl ?_
          refine AC_seq fun K10 hK10 => ?_
          refine AC_region ?_
          refine AL_ev (Ev_assign) rfl ?_
          refine AL_nil ?_
          refine hK10 _ _ _ ?_
          refine AC_ret ?_
          refine ret_ok hdm (.tmp rfl rfl .nil) (.cons .d .nil) ?_
          try rw [nameB]
          try rw [hI]
          try rw [hdr]
          try simp_all [List.length_pos_iff, chsOk, chOk, inB]
          try omega
        · skip
          refine AL_guard_t rfl rfl rfl ?_
          refine AL_ev (Ev_move) rfl ?_
          refine AL_guard_t rfl rfl rfl ?_
          refine AL_ev (Ev_move) rfl ?_
          refine AL_guard_t rfl rfl rfl ?_
          refine AL_ev (Ev_ix_str tstr9 rfl rfl (by omega) (by assumption)) rfl ?_
          refine AL_guard_t rfl rfl rfl ?_
          refine AL_ev (Ev_eql rfl rfl) rfl ?_
          refine AL_ev (Ev_pick rfl) rfl ?_
          refine AL_nil ?_
          refine hK7 _ _ _ ?_
          refine AC_cond rfl (fun hc5 => ?_) (fun hc5 => ?_)
          · skip
            refine AC_seq fun K11 hK11 => ?_
            refine AC_region ?_
            refine AL_ev (Ev_assign) rfl ?_
            refine AL_nil ?_
            refine hK11 _ _ _ ?_
            refine AC_ret ?_
            refine ret_ok hdm (.tmp rfl rfl .nil) (.cons .d .nil) ?_
            try rw [nameB]
            try rw [hI]
            try rw [hdr]
            try simp_all [List.length_pos_iff, chsOk, chOk, inB]
            try omega
          · skip
            refine AC_skip ?_
            refine hK6 _ _ _ ?_
            refine AC_region ?_
            refine AL_ev (Ev_move) rfl ?_
            first | refine AL_ev (Ev_add rfl rfl _ (wrap_id (by first | omega | (simp; omega)) (by first | omega | (simp; omega)))) rfl ?_ | refine AL_ev (Ev_add rfl rfl _ rfl) rfl ?_
            refine AL_ev (Ev_assign) rfl ?_
            refine AL_nil ?_
            refine closeS (j + 1) [] rfl rfl (by show (bts s).length - (j + 1) < (bts s).length - j; omega) ⟨hlt, ?_⟩ BxTo_nil (SlTo_cons (by first | exact .rd .d | exact Vw_int (by first | rfl | assumption | omega | (simp; done) | (simp; omega)) | exact Vw_c (by first | rfl | (simp; done) | simp_all) | exact .any) (SlTo_cons (by first | exact .rd .d | exact .any) SlTo_nil))
            rw [hI]
            try rw [hdr]
            try simp_all [chsOk, chOk, inB]
            try omega
  · skip
    have hj2 : j = (bts s).length := by
      have : ¬ j < (bts s).length := by simpa using hc1
      omega
    subst hj2
    rw [List.drop_length] at hI
    refine AC_exit ?_
    refine hK2 _ _ _ ?_
    refine AC_seq fun K12 hK12 => ?_
    refine AC_region ?_
    refine AL_ev (Ev_move) rfl ?_
    refine AL_ev (Ev_len_str tstr9 rfl) rfl ?_
    refine AL_fcall0 hT rfl cl105 (c_l01In s.size 1 20) rfl rfl ?_
    refine AL_ev (Ev_assign) rfl ?_
    refine AL_nil ?_
    refine hK12 _ _ _ ?_
    refine AC_ret ?_
    refine ret_ok hdm (.tmp rfl rfl .nil) (.cons .d .nil) ?_
    try rw [nameB]
    try rw [hI]
    try rw [hdr]
    try simp_all [List.length_pos_iff, chsOk, chOk, inB]
    try omega

set_option maxHeartbeats 1000000 in
set_option maxRecDepth 4000 in
theorem c_l03One (k : Int) (s : ByteArray) (m : Int) (ks : List T) (hb : bulk (.mk k s m ks) ≤ 1099511627776) : PCall Try.prog 98 [inj (.mk k s m ks)] (· = [.c (.bool (oneB k s m ks.length))]) := by
  obtain ⟨hs, hkl, _⟩ := bulk_mk hb
  refine PCall_of (n := 69) Try.func98 rfl rfl (Nat.le_of_ble_eq_true rfl) fun C hdm hT0 => ?_
  have hT := hT0
  refine AC_seq fun K1 hK1 => ?_
  refine AC_region ?_
  refine AL_box (Lay.st [.one, .one, .one, .one]) (nf rfl) rfl (by first | rfl | simp [Lay.len, Lay.lens]) _ rfl rfl ?_
  refine AL_ev (Ev_assign) rfl ?_
  refine AL_nil ?_
  refine hK1 _ _ _ ?_
  refine AC_seq fun K2 hK2 => ?_
  refine AC_seq fun K3 hK3 => ?_
  refine AC_region ?_
  first | refine AL_ev (Ev_fa_ptr rfl fa35_0 rfl rfl) rfl ?_ | refine AL_ev (Ev_fa_rp rfl fa35_0 rfl rfl) rfl ?_
  first | refine AL_ev (Ev_load_ptr rfl rfl rfl rfl rfl rfl ts3 ta3 rfl (fun _ => rfl)) rfl ?_ | refine AL_ev (Ev_load_rp rfl rfl rfl ts3 ta3 rfl (fun _ => rfl)) rfl ?_
  refine AL_nil ?_
  refine hK3 _ _ _ ?_
  refine AC_block ?_
  refine AC_seq fun K4 hK4 => ?_
  refine AC_region ?_
  refine AL_ev (Ev_eql rfl rfl) rfl ?_
  refine AL_ev (Ev_assign) rfl ?_
  refine AL_nil ?_
  refine hK4 _ _ _ ?_
  refine AC_cond rfl (fun hc1 => ?_) (fun hc1 => ?_)
  · skip
    refine AC_seq fun K5 hK5 => ?_
    refine AC_region ?_
    first | refine AL_ev (Ev_fa_ptr rfl fa35_2 rfl rfl) rfl ?_ | refine AL_ev (Ev_fa_rp rfl fa35_2 rfl rfl) rfl ?_
    first | refine AL_ev (Ev_load_ptr rfl rfl rfl rfl rfl rfl ts3 ta3 rfl (fun _ => rfl)) rfl ?_ | refine AL_ev (Ev_load_rp rfl rfl rfl ts3 ta3 rfl (fun _ => rfl)) rfl ?_
    refine AL_fcall0 hT rfl cl105 (c_l01In m 0 99999) rfl rfl ?_
    refine AL_ev (Ev_move) rfl ?_
    refine AL_bool 10 rfl (fun hg2 => ?_) (fun hg2 => ?_)
    · skip
      refine AL_guard_t rfl rfl rfl ?_
      first | refine AL_ev (Ev_fa_ptr rfl fa35_1 rfl rfl) rfl ?_ | refine AL_ev (Ev_fa_rp rfl fa35_1 rfl rfl) rfl ?_
      refine AL_guard_t rfl rfl rfl ?_
      first | refine AL_ev (Ev_load_ptr rfl rfl rfl rfl rfl rfl ts9 ta9 rfl (fun _ => rfl)) rfl ?_ | refine AL_ev (Ev_load_rp rfl rfl rfl ts9 ta9 rfl (fun _ => rfl)) rfl ?_
      refine AL_guard_t rfl rfl rfl ?_
      refine AL_ev (Ev_seql rfl rfl) rfl ?_
      refine AL_ev (Ev_pick rfl) rfl ?_
      refine AL_ev (Ev_move) rfl ?_
      refine AL_bool 15 rfl (fun hg3 => ?_) (fun hg3 => ?_)
      · skip
        refine AL_guard_t rfl rfl rfl ?_
        first | refine AL_ev (Ev_fa_ptr rfl fa35_3 rfl rfl) rfl ?_ | refine AL_ev (Ev_fa_rp rfl fa35_3 rfl rfl) rfl ?_
        refine AL_guard_t rfl rfl rfl ?_
        first | refine AL_ev (Ev_load_ptr rfl rfl rfl rfl rfl rfl ts24 ta24 rfl (fun _ => rfl)) rfl ?_ | refine AL_ev (Ev_load_rp rfl rfl rfl ts24 ta24 rfl (fun _ => rfl)) rfl ?_
        refine AL_guard_t rfl rfl rfl ?_
        first | refine AL_lim (x := (Operand.tmp 17)) rfl fun hl1 => ?_ | refine AL_limB (x := (Operand.tmp 17)) rfl rfl (by first | rfl | (simp; done) | (simp; omega)) fun hl1 => ?_ | have hl1 := True.intro
        try simp only [injs_length, ints_length, strs_length, injCs_length, u8s_length, List.length_map] at hl1
        first | refine AL_ev (Ev_len_injs te24 rfl) rfl ?_ | refine AL_ev (Ev_len_sl te24 rfl) rfl ?_ | refine AL_ev (Ev_len_ref te24 rfl) rfl ?_ | refine AL_ev (Ev_len_nil te24 rfl) rfl ?_ | refine AL_ev (Ev_len_c te24 rfl) rfl ?_
        refine AL_guard_t rfl rfl rfl ?_
        refine AL_ev (Ev_eql rfl rfl) rfl ?_
        refine AL_ev (Ev_pick rfl) rfl ?_
        refine AL_ev (Ev_assign) rfl ?_
        refine AL_nil ?_
        refine hK5 _ _ _ ?_
        refine AC_ret ?_
        refine ret_ok hdm (.tmp rfl rfl .nil) (.cons .d .nil) ?_
        try rw [oneB]
        try rw [hI]
        try rw [hdr]
        try simp_all [List.length_pos_iff, inB]
        try omega
      · skip
        refine AL_guard_f rfl rfl rfl rfl ?_
        refine AL_guard_f rfl rfl rfl rfl ?_
        refine AL_guard_f rfl rfl rfl rfl ?_
        refine AL_guard_f rfl rfl rfl rfl ?_
        refine AL_ev (Ev_pick rfl) rfl ?_
        refine AL_ev (Ev_assign) rfl ?_
        refine AL_nil ?_
        refine hK5 _ _ _ ?_
        refine AC_ret ?_
        refine ret_ok hdm (.tmp rfl rfl .nil) (.cons .d .nil) ?_
        try rw [oneB]
        try rw [hI]
        try rw [hdr]
        try simp_all [List.length_pos_iff, inB]
        try omega
    · skip
      refine AL_guard_f rfl rfl rfl rfl ?_
      refine AL_guard_f rfl rfl rfl rfl ?_
      refine AL_guard_f rfl rfl rfl rfl ?_
      refine AL_ev (Ev_pick rfl) rfl ?_
      refine AL_ev (Ev_move) rfl ?_
      refine AL_guard_f rfl rfl rfl rfl ?_
      refine AL_guard_f rfl rfl rfl rfl ?_
      refine AL_guard_f rfl rfl rfl rfl ?_
      refine AL_guard_f rfl rfl rfl rfl ?_
      refine AL_ev (Ev_pick rfl) rfl ?_
      refine AL_ev (Ev_assign) rfl ?_
      refine AL_nil ?_
      refine hK5 _ _ _ ?_
      refine AC_ret ?_
      refine ret_ok hdm (.tmp rfl rfl .nil) (.cons .d .nil) ?_
      try rw [oneB]
      try rw [hI]
      try rw [hdr]
      try simp_all [List.length_pos_iff, inB]
      try omega
  · skip
    refine AC_seq fun K6 hK6 => ?_
    refine AC_region ?_
    refine AL_ev (Ev_eql rfl rfl) rfl ?_
    refine AL_ev (Ev_assign) rfl ?_
    refine AL_nil ?_
    refine hK6 _ _ _ ?_
    refine AC_cond rfl (fun hc4 => ?_) (fun hc4 => ?_)
    · skip
      refine AC_seq fun K7 hK7 => ?_
      refine AC_region ?_
      first | refine AL_ev (Ev_fa_ptr rfl fa35_1 rfl rfl) rfl ?_ | refine AL_ev (Ev_fa_rp rfl fa35_1 rfl rfl) rfl ?_
      first | refine AL_ev (Ev_load_ptr rfl rfl rfl rfl rfl rfl ts9 ta9 rfl (fun _ => rfl)) rfl ?_ | refine AL_ev (Ev_load_rp rfl rfl rfl ts9 ta9 rfl (fun _ => rfl)) rfl ?_
      refine AL_fcall0 hT rfl cl106 (c_l03Name s (by omega)) rfl rfl ?_
      refine AL_ev (Ev_move) rfl ?_
      refine AL_bool 26 rfl (fun hg5 => ?_) (fun hg5 => ?_)
      · skip
        refine AL_guard_t rfl rfl rfl ?_
        first | refine AL_ev (Ev_fa_ptr rfl fa35_2 rfl rfl) rfl ?_ | refine AL_ev (Ev_fa_rp rfl fa35_2 rfl rfl) rfl ?_
        refine AL_guard_t rfl rfl rfl ?_
        first | refine AL_ev (Ev_load_ptr rfl rfl rfl rfl rfl rfl ts3 ta3 rfl (fun _ => rfl)) rfl ?_ | refine AL_ev (Ev_load_rp rfl rfl rfl ts3 ta3 rfl (fun _ => rfl)) rfl ?_
        refine AL_guard_t rfl rfl rfl ?_
        refine AL_ev (Ev_eql rfl rfl) rfl ?_
        refine AL_ev (Ev_pick rfl) rfl ?_
        refine AL_ev (Ev_move) rfl ?_
        refine AL_bool 31 rfl (fun hg6 => ?_) (fun hg6 => ?_)
        · skip
          refine AL_guard_t rfl rfl rfl ?_
          first | refine AL_ev (Ev_fa_ptr rfl fa35_3 rfl rfl) rfl ?_ | refine AL_ev (Ev_fa_rp rfl fa35_3 rfl rfl) rfl ?_
          refine AL_guard_t rfl rfl rfl ?_
          first | refine AL_ev (Ev_load_ptr rfl rfl rfl rfl rfl rfl ts24 ta24 rfl (fun _ => rfl)) rfl ?_ | refine AL_ev (Ev_load_rp rfl rfl rfl ts24 ta24 rfl (fun _ => rfl)) rfl ?_
          refine AL_guard_t rfl rfl rfl ?_
          first | refine AL_lim (x := (Operand.tmp 33)) rfl fun hl2 => ?_ | refine AL_limB (x := (Operand.tmp 33)) rfl rfl (by first | rfl | (simp; done) | (simp; omega)) fun hl2 => ?_ | have hl2 := True.intro
          try simp only [injs_length, ints_length, strs_length, injCs_length, u8s_length, List.length_map] at hl2
          first | refine AL_ev (Ev_len_injs te24 rfl) rfl ?_ | refine AL_ev (Ev_len_sl te24 rfl) rfl ?_ | refine AL_ev (Ev_len_ref te24 rfl) rfl ?_ | refine AL_ev (Ev_len_nil te24 rfl) rfl ?_ | refine AL_ev (Ev_len_c te24 rfl) rfl ?_
          refine AL_guard_t rfl rfl rfl ?_
          refine AL_ev (Ev_eql rfl rfl) rfl ?_
          refine AL_ev (Ev_pick rfl) rfl ?_
          refine AL_ev (Ev_assign) rfl ?_
          refine AL_nil ?_
          refine hK7 _ _ _ ?_
          refine AC_ret ?_
          refine ret_ok hdm (.tmp rfl rfl .nil) (.cons .d .nil) ?_
          try rw [oneB]
          try rw [hI]
          try rw [hdr]
          try simp_all [List.length_pos_iff, inB]
          try omega
        · skip
          refine AL_guard_f rfl rfl rfl rfl ?_
          refine AL_guard_f rfl rfl rfl rfl ?_
          refine AL_guard_f rfl rfl rfl rfl ?_
          refine AL_guard_f rfl rfl rfl rfl ?_
          refine AL_ev (Ev_pick rfl) rfl ?_
          refine AL_ev (Ev_assign) rfl ?_
          refine AL_nil ?_
          refine hK7 _ _ _ ?_
          refine AC_ret ?_
          refine ret_ok hdm (.tmp rfl rfl .nil) (.cons .d .nil) ?_
          try rw [oneB]
          try rw [hI]
          try rw [hdr]
          try simp_all [List.length_pos_iff, inB]
          try omega
      · skip
        refine AL_guard_f rfl rfl rfl rfl ?_
        refine AL_guard_f rfl rfl rfl rfl ?_
        refine AL_guard_f rfl rfl rfl rfl ?_
        refine AL_ev (Ev_pick rfl) rfl ?_
        refine AL_ev (Ev_move) rfl ?_
        refine AL_guard_f rfl rfl rfl rfl ?_
        refine AL_guard_f rfl rfl rfl rfl ?_
        refine AL_guard_f rfl rfl rfl rfl ?_
        refine AL_guard_f rfl rfl rfl rfl ?_
        refine AL_ev (Ev_pick rfl) rfl ?_
        refine AL_ev (Ev_assign) rfl ?_
        refine AL_nil ?_
        refine hK7 _ _ _ ?_
        refine AC_ret ?_
        refine ret_ok hdm (.tmp rfl rfl .nil) (.cons .d .nil) ?_
        try rw [oneB]
        try rw [hI]
        try rw [hdr]
        try simp_all [List.length_pos_iff, inB]
        try omega
    · skip
      refine AC_seq fun K8 hK8 => ?_
      refine AC_region ?_
      refine AL_ev (Ev_eql rfl rfl) rfl ?_
      refine AL_ev (Ev_assign) rfl ?_
      refine AL_nil ?_
      refine hK8 _ _ _ ?_
      refine AC_cond rfl (fun hc7 => ?_) (fun hc7 => ?_)
      · skip
        refine AC_seq fun K9 hK9 => ?_
        refine AC_region ?_
        first | refine AL_ev (Ev_fa_ptr rfl fa35_2 rfl rfl) rfl ?_ | refine AL_ev (Ev_fa_rp rfl fa35_2 rfl rfl) rfl ?_
        first | refine AL_ev (Ev_load_ptr rfl rfl rfl rfl rfl rfl ts3 ta3 rfl (fun _ => rfl)) rfl ?_ | refine AL_ev (Ev_load_rp rfl rfl rfl ts3 ta3 rfl (fun _ => rfl)) rfl ?_
        refine AL_fcall0 hT rfl cl105 (c_l01In m (-999999999) 999999999) rfl rfl ?_
        refine AL_ev (Ev_move) rfl ?_
        refine AL_bool 42 rfl (fun hg8 => ?_) (fun hg8 => ?_)
        · skip
          refine AL_guard_t rfl rfl rfl ?_
          first | refine AL_ev (Ev_fa_ptr rfl fa35_1 rfl rfl) rfl ?_ | refine AL_ev (Ev_fa_rp rfl fa35_1 rfl rfl) rfl ?_
          refine AL_guard_t rfl rfl rfl ?_
          first | refine AL_ev (Ev_load_ptr rfl rfl rfl rfl rfl rfl ts9 ta9 rfl (fun _ => rfl)) rfl ?_ | refine AL_ev (Ev_load_rp rfl rfl rfl ts9 ta9 rfl (fun _ => rfl)) rfl ?_
          refine AL_guard_t rfl rfl rfl ?_
          refine AL_ev (Ev_seql rfl rfl) rfl ?_
          refine AL_ev (Ev_pick rfl) rfl ?_
          refine AL_ev (Ev_move) rfl ?_
          refine AL_bool 47 rfl (fun hg9 => ?_) (fun hg9 => ?_)
          · skip
            refine AL_guard_t rfl rfl rfl ?_
            first | refine AL_ev (Ev_fa_ptr rfl fa35_3 rfl rfl) rfl ?_ | refine AL_ev (Ev_fa_rp rfl fa35_3 rfl rfl) rfl ?_
            refine AL_guard_t rfl rfl rfl ?_
            first | refine AL_ev (Ev_load_ptr rfl rfl rfl rfl rfl rfl ts24 ta24 rfl (fun _ => rfl)) rfl ?_ | refine AL_ev (Ev_load_rp rfl rfl rfl ts24 ta24 rfl (fun _ => rfl)) rfl ?_
            refine AL_guard_t rfl rfl rfl ?_
            first | refine AL_lim (x := (Operand.tmp 49)) rfl fun hl3 => ?_ | refine AL_limB (x := (Operand.tmp 49)) rfl rfl (by first | rfl | (simp; done) | (simp; omega)) fun hl3 => ?_ | have hl3 := True.intro
            try simp only [injs_length, ints_length, strs_length, injCs_length, u8s_length, List.length_map] at hl3
            first | refine AL_ev (Ev_len_injs te24 rfl) rfl ?_ | refine AL_ev (Ev_len_sl te24 rfl) rfl ?_ | refine AL_ev (Ev_len_ref te24 rfl) rfl ?_ | refine AL_ev (Ev_len_nil te24 rfl) rfl ?_ | refine AL_ev (Ev_len_c te24 rfl) rfl ?_
            refine AL_guard_t rfl rfl rfl ?_
            refine AL_ev (Ev_eql rfl rfl) rfl ?_
            refine AL_ev (Ev_pick rfl) rfl ?_
            refine AL_ev (Ev_assign) rfl ?_
            refine AL_nil ?_
            refine hK9 _ _ _ ?_
            refine AC_ret ?_
            refine ret_ok hdm (.tmp rfl rfl .nil) (.cons .d .nil) ?_
            try rw [oneB]
            try rw [hI]
            try rw [hdr]
            try simp_all [List.length_pos_iff, inB]
            try omega
          · skip
            refine AL_guard_f rfl rfl rfl rfl ?_
            refine AL_guard_f rfl rfl rfl rfl ?_
            refine AL_guard_f rfl rfl rfl rfl ?_
            refine AL_guard_f rfl rfl rfl rfl ?_
            refine AL_ev (Ev_pick rfl) rfl ?_
            refine AL_ev (Ev_assign) rfl ?_
            refine AL_nil ?_
            refine hK9 _ _ _ ?_
            refine AC_ret ?_
            refine ret_ok hdm (.tmp rfl rfl .nil) (.cons .d .nil) ?_
            try rw [oneB]
            try rw [hI]
            try rw [hdr]
            try simp_all [List.length_pos_iff, inB]
            try omega
        · skip
          refine AL_guard_f rfl rfl rfl rfl ?_
          refine AL_guard_f rfl rfl rfl rfl ?_
          refine AL_guard_f rfl rfl rfl rfl ?_
          refine AL_ev (Ev_pick rfl) rfl ?_
          refine AL_ev (Ev_move) rfl ?_
          refine AL_guard_f rfl rfl rfl rfl ?_
          refine AL_guard_f rfl rfl rfl rfl ?_
          refine AL_guard_f rfl rfl rfl rfl ?_
          refine AL_guard_f rfl rfl rfl rfl ?_
          refine AL_ev (Ev_pick rfl) rfl ?_
          refine AL_ev (Ev_assign) rfl ?_
          refine AL_nil ?_
          refine hK9 _ _ _ ?_
          refine AC_ret ?_
          refine ret_ok hdm (.tmp rfl rfl .nil) (.cons .d .nil) ?_
          try rw [oneB]
          try rw [hI]
          try rw [hdr]
          try simp_all [List.length_pos_iff, inB]
          try omega
      · skip
        refine AC_seq fun K10 hK10 => ?_
        refine AC_region ?_
        refine AL_ev (Ev_eql rfl rfl) rfl ?_
        refine AL_ev (Ev_assign) rfl ?_
        refine AL_nil ?_
        refine hK10 _ _ _ ?_
        refine AC_cond rfl (fun hc10 => ?_) (fun hc10 => ?_)
        · skip
          refine AC_seq fun K11 hK11 => ?_
          refine AC_region ?_
          first | refine AL_ev (Ev_fa_ptr rfl fa35_1 rfl rfl) rfl ?_ | refine AL_ev (Ev_fa_rp rfl fa35_1 rfl rfl) rfl ?_
          first | refine AL_ev (Ev_load_ptr rfl rfl rfl rfl rfl rfl ts9 ta9 rfl (fun _ => rfl)) rfl ?_ | refine AL_ev (Ev_load_rp rfl rfl rfl ts9 ta9 rfl (fun _ => rfl)) rfl ?_
          refine AL_fcall0 hT rfl cl106 (c_l03Name s (by omega)) rfl rfl ?_
          refine AL_ev (Ev_move) rfl ?_
          refine AL_bool 58 rfl (fun hg11 => ?_) (fun hg11 => ?_)
          · skip
            refine AL_guard_t rfl rfl rfl ?_
            first | refine AL_ev (Ev_fa_ptr rfl fa35_2 rfl rfl) rfl ?_ | refine AL_ev (Ev_fa_rp rfl fa35_2 rfl rfl) rfl ?_
            refine AL_guard_t rfl rfl rfl ?_
            first | refine AL_ev (Ev_load_ptr rfl rfl rfl rfl rfl rfl ts3 ta3 rfl (fun _ => rfl)) rfl ?_ | refine AL_ev (Ev_load_rp rfl rfl rfl ts3 ta3 rfl (fun _ => rfl)) rfl ?_
            refine AL_guard_t rfl rfl rfl ?_
            refine AL_ev (Ev_eql rfl rfl) rfl ?_
            refine AL_ev (Ev_pick rfl) rfl ?_
            refine AL_ev (Ev_move) rfl ?_
            refine AL_bool 63 rfl (fun hg12 => ?_) (fun hg12 => ?_)
            · skip
              refine AL_guard_t rfl rfl rfl ?_
              first | refine AL_ev (Ev_fa_ptr rfl fa35_3 rfl rfl) rfl ?_ | refine AL_ev (Ev_fa_rp rfl fa35_3 rfl rfl) rfl ?_
              refine AL_guard_t rfl rfl rfl ?_
              first | refine AL_ev (Ev_load_ptr rfl rfl rfl rfl rfl rfl ts24 ta24 rfl (fun _ => rfl)) rfl ?_ | refine AL_ev (Ev_load_rp rfl rfl rfl ts24 ta24 rfl (fun _ => rfl)) rfl ?_
              refine AL_guard_t rfl rfl rfl ?_
              first | refine AL_lim (x := (Operand.tmp 65)) rfl fun hl4 => ?_ | refine AL_limB (x := (Operand.tmp 65)) rfl rfl (by first | rfl | (simp; done) | (simp; omega)) fun hl4 => ?_ | have hl4 := True.intro
              try simp only [injs_length, ints_length, strs_length, injCs_length, u8s_length, List.length_map] at hl4
              first | refine AL_ev (Ev_len_injs te24 rfl) rfl ?_ | refine AL_ev (Ev_len_sl te24 rfl) rfl ?_ | refine AL_ev (Ev_len_ref te24 rfl) rfl ?_ | refine AL_ev (Ev_len_nil te24 rfl) rfl ?_ | refine AL_ev (Ev_len_c te24 rfl) rfl ?_
              refine AL_guard_t rfl rfl rfl ?_
              refine AL_fcall0 hT rfl cl105 (c_l01In ks.length 1 5) rfl rfl ?_
              refine AL_ev (Ev_pick rfl) rfl ?_
              refine AL_ev (Ev_assign) rfl ?_
              refine AL_nil ?_
              refine hK11 _ _ _ ?_
              refine AC_ret ?_
              refine ret_ok hdm (.tmp rfl rfl .nil) (.cons .d .nil) ?_
              try rw [oneB]
              try rw [hI]
              try rw [hdr]
              try simp_all [List.length_pos_iff, inB]
              try omega
            · skip
              refine AL_guard_f rfl rfl rfl rfl ?_
              refine AL_guard_f rfl rfl rfl rfl ?_
              refine AL_guard_f rfl rfl rfl rfl ?_
              refine AL_guard_f rfl rfl rfl rfl ?_
              refine AL_ev (Ev_pick rfl) rfl ?_
              refine AL_ev (Ev_assign) rfl ?_
              refine AL_nil ?_
              refine hK11 _ _ _ ?_
              refine AC_ret ?_
              refine ret_ok hdm (.tmp rfl rfl .nil) (.cons .d .nil) ?_
              try rw [oneB]
              try rw [hI]
              try rw [hdr]
              try simp_all [List.length_pos_iff, inB]
              try omega
          · skip
            refine AL_guard_f rfl rfl rfl rfl ?_
            refine AL_guard_f rfl rfl rfl rfl ?_
            refine AL_guard_f rfl rfl rfl rfl ?_
            refine AL_ev (Ev_pick rfl) rfl ?_
            refine AL_ev (Ev_move) rfl ?_
            refine AL_guard_f rfl rfl rfl rfl ?_
            refine AL_guard_f rfl rfl rfl rfl ?_
            refine AL_guard_f rfl rfl rfl rfl ?_
            refine AL_guard_f rfl rfl rfl rfl ?_
            refine AL_ev (Ev_pick rfl) rfl ?_
            refine AL_ev (Ev_assign) rfl ?_
            refine AL_nil ?_
            refine hK11 _ _ _ ?_
            refine AC_ret ?_
            refine ret_ok hdm (.tmp rfl rfl .nil) (.cons .d .nil) ?_
            try rw [oneB]
            try rw [hI]
            try rw [hdr]
            try simp_all [List.length_pos_iff, inB]
            try omega
        · skip
          refine AC_skip ?_
          refine hK2 _ _ _ ?_
          refine AC_seq fun K12 hK12 => ?_
          refine AC_region ?_
          refine AL_ev (Ev_assign) rfl ?_
          refine AL_nil ?_
          refine hK12 _ _ _ ?_
          refine AC_ret ?_
          refine ret_ok hdm (.tmp rfl rfl .nil) (.cons .d .nil) ?_
          try rw [oneB]
          try rw [hI]
          try rw [hdr]
          try simp_all [List.length_pos_iff, inB]
          try omega

set_option maxHeartbeats 1000000 in
set_option maxRecDepth 4000 in
theorem c_sized (t : T) : bulk t ≤ 1099511627776 → ∀ d : Int, 0 ≤ d → d ≤ 1000 → PCall Try.prog 70 [inj t, .c (.int .i64 d)] (· = [.c (.int .i64 (sized t d))]) := by
  induction t using T.ind with | h k s m ks ih => ?_
  intro hb d hd0 hd1
  obtain ⟨hs, hkl, hku⟩ := bulk_mk hb
  refine PCall_of (n := 98) Try.func70 rfl rfl (Nat.le_of_ble_eq_true rfl) fun C hdm hT0 => ?_
  have hT := hT0
  refine AC_seq fun K1 hK1 => ?_
  refine AC_region ?_
  refine AL_box (Lay.st [.one, .one, .one, .one]) (nf rfl) rfl (by first | rfl | simp [Lay.len, Lay.lens]) _ rfl rfl ?_
  refine AL_ev (Ev_assign) rfl ?_
  refine AL_nil ?_
  refine hK1 _ _ _ ?_
  refine AC_seq fun K2 hK2 => ?_
  refine AC_seq fun K3 hK3 => ?_
  refine AC_region ?_
  refine AL_ev (Ev_move) rfl ?_
  refine AL_ev (Ev_gtr rfl rfl) rfl ?_
  refine AL_nil ?_
  refine hK3 _ _ _ ?_
  refine AC_cond rfl (fun hc1 => ?_) (fun hc1 => ?_)
  · skip
    refine AC_seq fun K4 hK4 => ?_
    refine AC_region ?_
    refine AL_ev (Ev_assign) rfl ?_
    refine AL_nil ?_
    refine hK4 _ _ _ ?_
    refine AC_ret ?_
    refine ret_ok hdm (.tmp rfl rfl .nil) (.cons .d .nil) ?_
    try rw [sized]
    try rw [hI]
    try rw [hdr]
    try simp_all [List.length_pos_iff, sizedL, oneB, inB]
    try omega
  · skip
    refine AC_skip ?_
    refine hK2 _ _ _ ?_
    refine AC_seqJ (fun f L => (oneB k s m ks.length = true ∧ d ≤ 40) ∧ f = frOf [(1, i64 d), (2, .d (.rp (Lay.st [.one, .one, .one, .one]) (inj (.mk k s m ks)) []))] ∧ L = []) ?_ ?_
    · skip
      refine AC_seq fun K6 hK6 => ?_
      refine AC_region ?_
      first | refine AL_ev (Ev_fa_ptr rfl fa35_0 rfl rfl) rfl ?_ | refine AL_ev (Ev_fa_rp rfl fa35_0 rfl rfl) rfl ?_
      first | refine AL_ev (Ev_load_ptr rfl rfl rfl rfl rfl rfl ts3 ta3 rfl (fun _ => rfl)) rfl ?_ | refine AL_ev (Ev_load_rp rfl rfl rfl ts3 ta3 rfl (fun _ => rfl)) rfl ?_
      refine AL_nil ?_
      refine hK6 _ _ _ ?_
      refine AC_block ?_
      refine AC_seq fun K7 hK7 => ?_
      refine AC_region ?_
      refine AL_ev (Ev_eql rfl rfl) rfl ?_
      refine AL_ev (Ev_assign) rfl ?_
      refine AL_nil ?_
      refine hK7 _ _ _ ?_
      refine AC_cond rfl (fun hc2 => ?_) (fun hc2 => ?_)
      · skip
        refine AC_seq fun K8 hK8 => ?_
        refine AC_region ?_
        first | refine AL_ev (Ev_fa_ptr rfl fa35_1 rfl rfl) rfl ?_ | refine AL_ev (Ev_fa_rp rfl fa35_1 rfl rfl) rfl ?_
        first | refine AL_ev (Ev_load_ptr rfl rfl rfl rfl rfl rfl ts9 ta9 rfl (fun _ => rfl)) rfl ?_ | refine AL_ev (Ev_load_rp rfl rfl rfl ts9 ta9 rfl (fun _ => rfl)) rfl ?_
        refine AL_ev (Ev_sneq rfl rfl) rfl ?_
        refine AL_ev (Ev_move) rfl ?_
        refine AL_bool 17 rfl (fun hg3 => ?_) (fun hg3 => ?_)
        · skip
          refine AL_guard_f rfl rfl rfl rfl ?_
          refine AL_guard_f rfl rfl rfl rfl ?_
          refine AL_guard_f rfl rfl rfl rfl ?_
          refine AL_guard_f rfl rfl rfl rfl ?_
          refine AL_ev (Ev_pick rfl) rfl ?_
          refine AL_ev (Ev_move) rfl ?_
          refine AL_guard_f rfl rfl rfl rfl ?_
          refine AL_guard_f rfl rfl rfl rfl ?_
          refine AL_guard_f rfl rfl rfl rfl ?_
          refine AL_guard_f rfl rfl rfl rfl ?_
          refine AL_ev (Ev_pick rfl) rfl ?_
          refine AL_nil ?_
          refine hK8 _ _ _ ?_
          refine AC_cond_t rfl ?_
          refine AC_seq fun K9 hK9 => ?_
          refine AC_region ?_
          refine AL_ev (Ev_assign) rfl ?_
          refine AL_nil ?_
          refine hK9 _ _ _ ?_
          refine AC_ret ?_
          refine ret_ok hdm (.tmp rfl rfl .nil) (.cons .d .nil) ?_
          try rw [sized]
          try rw [hI]
          try rw [hdr]
          try simp_all [List.length_pos_iff, sizedL, oneB, inB]
          try omega
        · skip
          refine AL_guard_t rfl rfl rfl ?_
          first | refine AL_ev (Ev_fa_ptr rfl fa35_2 rfl rfl) rfl ?_ | refine AL_ev (Ev_fa_rp rfl fa35_2 rfl rfl) rfl ?_
          refine AL_guard_t rfl rfl rfl ?_
          first | refine AL_ev (Ev_load_ptr rfl rfl rfl rfl rfl rfl ts3 ta3 rfl (fun _ => rfl)) rfl ?_ | refine AL_ev (Ev_load_rp rfl rfl rfl ts3 ta3 rfl (fun _ => rfl)) rfl ?_
          refine AL_guard_t rfl rfl rfl ?_
          refine AL_fcall0 hT rfl cl92 (c_within m 0 99999) rfl rfl ?_
          refine AL_guard_t rfl rfl rfl ?_
          refine AL_ev (Ev_not rfl) rfl ?_
          refine AL_ev (Ev_pick rfl) rfl ?_
          refine AL_ev (Ev_move) rfl ?_
          refine AL_bool 23 rfl (fun hg4 => ?_) (fun hg4 => ?_)
          · skip
            refine AL_guard_f rfl rfl rfl rfl ?_
            refine AL_guard_f rfl rfl rfl rfl ?_
            refine AL_guard_f rfl rfl rfl rfl ?_
            refine AL_guard_f rfl rfl rfl rfl ?_
            refine AL_ev (Ev_pick rfl) rfl ?_
            refine AL_nil ?_
            refine hK8 _ _ _ ?_
            refine AC_cond_t rfl ?_
            refine AC_seq fun K10 hK10 => ?_
            refine AC_region ?_
            refine AL_ev (Ev_assign) rfl ?_
            refine AL_nil ?_
            refine hK10 _ _ _ ?_
            refine AC_ret ?_
            refine ret_ok hdm (.tmp rfl rfl .nil) (.cons .d .nil) ?_
            try rw [sized]
            try rw [hI]
            try rw [hdr]
            try simp_all [List.length_pos_iff, sizedL, oneB, inB]
            try omega
          · skip
            refine AL_guard_t rfl rfl rfl ?_
            first | refine AL_ev (Ev_fa_ptr rfl fa35_3 rfl rfl) rfl ?_ | refine AL_ev (Ev_fa_rp rfl fa35_3 rfl rfl) rfl ?_
            refine AL_guard_t rfl rfl rfl ?_
            first | refine AL_ev (Ev_load_ptr rfl rfl rfl rfl rfl rfl ts24 ta24 rfl (fun _ => rfl)) rfl ?_ | refine AL_ev (Ev_load_rp rfl rfl rfl ts24 ta24 rfl (fun _ => rfl)) rfl ?_
            refine AL_guard_t rfl rfl rfl ?_
            first | refine AL_lim (x := (Operand.tmp 25)) rfl fun hl1 => ?_ | refine AL_limB (x := (Operand.tmp 25)) rfl rfl (by first | rfl | (simp; done) | (simp; omega)) fun hl1 => ?_ | have hl1 := True.intro
            try simp only [injs_length, ints_length, strs_length, injCs_length, u8s_length, List.length_map] at hl1
            first | refine AL_ev (Ev_len_injs te24 rfl) rfl ?_ | refine AL_ev (Ev_len_sl te24 rfl) rfl ?_ | refine AL_ev (Ev_len_ref te24 rfl) rfl ?_ | refine AL_ev (Ev_len_nil te24 rfl) rfl ?_ | refine AL_ev (Ev_len_c te24 rfl) rfl ?_
            refine AL_guard_t rfl rfl rfl ?_
            refine AL_ev (Ev_gtr rfl rfl) rfl ?_
            refine AL_ev (Ev_pick rfl) rfl ?_
            refine AL_nil ?_
            refine hK8 _ _ _ ?_
            refine AC_cond rfl (fun hc5 => ?_) (fun hc5 => ?_)
            · skip
              refine AC_seq fun K11 hK11 => ?_
              refine AC_region ?_
              refine AL_ev (Ev_assign) rfl ?_
              refine AL_nil ?_
              refine hK11 _ _ _ ?_
              refine AC_ret ?_
              refine ret_ok hdm (.tmp rfl rfl .nil) (.cons .d .nil) ?_
              try rw [sized]
              try rw [hI]
              try rw [hdr]
              try simp_all [List.length_pos_iff, sizedL, oneB, inB]
              try omega
            · skip
              refine AC_skip ?_
              refine joinF [] rfl rfl ?_ BxTo_nil (SlTo_cons (by first | exact .rd .d | exact Vw_int (by first | rfl | assumption | omega | (simp; done) | (simp; omega) | (simp_all []; done) | (simp_all []; omega)) | exact Vw_c (by first | rfl | (simp; done) | (simp_all []; done)) | exact .any) (SlTo_cons (by first | exact .rd (.ptr (srcFree rfl) rfl rfl rfl .d) | exact .rd .d) SlTo_nil))
              refine ⟨?_, by first | omega | simp_all⟩
              try rw [oneB]
              try rw [hI]
              try rw [hdr]
              try simp_all [List.length_pos_iff, inB]
              try omega
      · skip
        refine AC_seq fun K12 hK12 => ?_
        refine AC_region ?_
        refine AL_ev (Ev_eql rfl rfl) rfl ?_
        refine AL_ev (Ev_assign) rfl ?_
        refine AL_nil ?_
        refine hK12 _ _ _ ?_
        refine AC_cond rfl (fun hc6 => ?_) (fun hc6 => ?_)
        · skip
          refine AC_seq fun K13 hK13 => ?_
          refine AC_region ?_
          first | refine AL_ev (Ev_fa_ptr rfl fa35_1 rfl rfl) rfl ?_ | refine AL_ev (Ev_fa_rp rfl fa35_1 rfl rfl) rfl ?_
          first | refine AL_ev (Ev_load_ptr rfl rfl rfl rfl rfl rfl ts9 ta9 rfl (fun _ => rfl)) rfl ?_ | refine AL_ev (Ev_load_rp rfl rfl rfl ts9 ta9 rfl (fun _ => rfl)) rfl ?_
          refine AL_fcall0 hT rfl cl93 (c_nameOk s (by omega)) rfl rfl ?_
          refine AL_ev (Ev_not rfl) rfl ?_
          refine AL_ev (Ev_move) rfl ?_
          refine AL_bool 35 rfl (fun hg7 => ?_) (fun hg7 => ?_)
          · skip
            refine AL_guard_f rfl rfl rfl rfl ?_
            refine AL_guard_f rfl rfl rfl rfl ?_
            refine AL_guard_f rfl rfl rfl rfl ?_
            refine AL_ev (Ev_pick rfl) rfl ?_
            refine AL_ev (Ev_move) rfl ?_
            refine AL_guard_f rfl rfl rfl rfl ?_
            refine AL_guard_f rfl rfl rfl rfl ?_
            refine AL_guard_f rfl rfl rfl rfl ?_
            refine AL_guard_f rfl rfl rfl rfl ?_
            refine AL_ev (Ev_pick rfl) rfl ?_
            refine AL_nil ?_
            refine hK13 _ _ _ ?_
            refine AC_cond_t rfl ?_
            refine AC_seq fun K14 hK14 => ?_
            refine AC_region ?_
            refine AL_ev (Ev_assign) rfl ?_
            refine AL_nil ?_
            refine hK14 _ _ _ ?_
            refine AC_ret ?_
            refine ret_ok hdm (.tmp rfl rfl .nil) (.cons .d .nil) ?_
            try rw [sized]
            try rw [hI]
            try rw [hdr]
            try simp_all [List.length_pos_iff, sizedL, oneB, inB]
            try omega
          · skip
            refine AL_guard_t rfl rfl rfl ?_
            first | refine AL_ev (Ev_fa_ptr rfl fa35_2 rfl rfl) rfl ?_ | refine AL_ev (Ev_fa_rp rfl fa35_2 rfl rfl) rfl ?_
            refine AL_guard_t rfl rfl rfl ?_
            first | refine AL_ev (Ev_load_ptr rfl rfl rfl rfl rfl rfl ts3 ta3 rfl (fun _ => rfl)) rfl ?_ | refine AL_ev (Ev_load_rp rfl rfl rfl ts3 ta3 rfl (fun _ => rfl)) rfl ?_
            refine AL_guard_t rfl rfl rfl ?_
            refine AL_ev (Ev_neq rfl rfl) rfl ?_
            refine AL_ev (Ev_pick rfl) rfl ?_
            refine AL_ev (Ev_move) rfl ?_
            refine AL_bool 40 rfl (fun hg8 => ?_) (fun hg8 => ?_)
            · skip
              refine AL_guard_f rfl rfl rfl rfl ?_
              refine AL_guard_f rfl rfl rfl rfl ?_
              refine AL_guard_f rfl rfl rfl rfl ?_
              refine AL_guard_f rfl rfl rfl rfl ?_
              refine AL_ev (Ev_pick rfl) rfl ?_
              refine AL_nil ?_
              refine hK13 _ _ _ ?_
              refine AC_cond_t rfl ?_
              refine AC_seq fun K15 hK15 => ?_
              refine AC_region ?_
              refine AL_ev (Ev_assign) rfl ?_
              refine AL_nil ?_
              refine hK15 _ _ _ ?_
              refine AC_ret ?_
              refine ret_ok hdm (.tmp rfl rfl .nil) (.cons .d .nil) ?_
              try rw [sized]
              try rw [hI]
              try rw [hdr]
              try simp_all [List.length_pos_iff, sizedL, oneB, inB]
              try omega
            · skip
              refine AL_guard_t rfl rfl rfl ?_
              first | refine AL_ev (Ev_fa_ptr rfl fa35_3 rfl rfl) rfl ?_ | refine AL_ev (Ev_fa_rp rfl fa35_3 rfl rfl) rfl ?_
              refine AL_guard_t rfl rfl rfl ?_
              first | refine AL_ev (Ev_load_ptr rfl rfl rfl rfl rfl rfl ts24 ta24 rfl (fun _ => rfl)) rfl ?_ | refine AL_ev (Ev_load_rp rfl rfl rfl ts24 ta24 rfl (fun _ => rfl)) rfl ?_
              refine AL_guard_t rfl rfl rfl ?_
              first | refine AL_lim (x := (Operand.tmp 42)) rfl fun hl2 => ?_ | refine AL_limB (x := (Operand.tmp 42)) rfl rfl (by first | rfl | (simp; done) | (simp; omega)) fun hl2 => ?_ | have hl2 := True.intro
              try simp only [injs_length, ints_length, strs_length, injCs_length, u8s_length, List.length_map] at hl2
              first | refine AL_ev (Ev_len_injs te24 rfl) rfl ?_ | refine AL_ev (Ev_len_sl te24 rfl) rfl ?_ | refine AL_ev (Ev_len_ref te24 rfl) rfl ?_ | refine AL_ev (Ev_len_nil te24 rfl) rfl ?_ | refine AL_ev (Ev_len_c te24 rfl) rfl ?_
              refine AL_guard_t rfl rfl rfl ?_
              refine AL_ev (Ev_gtr rfl rfl) rfl ?_
              refine AL_ev (Ev_pick rfl) rfl ?_
              refine AL_nil ?_
              refine hK13 _ _ _ ?_
              refine AC_cond rfl (fun hc9 => ?_) (fun hc9 => ?_)
              · skip
                refine AC_seq fun K16 hK16 => ?_
                refine AC_region ?_
                refine AL_ev (Ev_assign) rfl ?_
                refine AL_nil ?_
                refine hK16 _ _ _ ?_
                refine AC_ret ?_
                refine ret_ok hdm (.tmp rfl rfl .nil) (.cons .d .nil) ?_
                try rw [sized]
                try rw [hI]
                try rw [hdr]
                try simp_all [List.length_pos_iff, sizedL, oneB, inB]
                try omega
              · skip
                refine AC_skip ?_
                refine joinF [] rfl rfl ?_ BxTo_nil (SlTo_cons (by first | exact .rd .d | exact Vw_int (by first | rfl | assumption | omega | (simp; done) | (simp; omega) | (simp_all []; done) | (simp_all []; omega)) | exact Vw_c (by first | rfl | (simp; done) | (simp_all []; done)) | exact .any) (SlTo_cons (by first | exact .rd (.ptr (srcFree rfl) rfl rfl rfl .d) | exact .rd .d) SlTo_nil))
                refine ⟨?_, by first | omega | simp_all⟩
                try rw [oneB]
                try rw [hI]
                try rw [hdr]
                try simp_all [List.length_pos_iff, inB]
                try omega
        · skip
          refine AC_seq fun K17 hK17 => ?_
          refine AC_region ?_
          refine AL_ev (Ev_eql rfl rfl) rfl ?_
          refine AL_ev (Ev_assign) rfl ?_
          refine AL_nil ?_
          refine hK17 _ _ _ ?_
          refine AC_cond rfl (fun hc10 => ?_) (fun hc10 => ?_)
          · skip
            refine AC_seq fun K18 hK18 => ?_
            refine AC_region ?_
            first | refine AL_ev (Ev_fa_ptr rfl fa35_1 rfl rfl) rfl ?_ | refine AL_ev (Ev_fa_rp rfl fa35_1 rfl rfl) rfl ?_
            first | refine AL_ev (Ev_load_ptr rfl rfl rfl rfl rfl rfl ts9 ta9 rfl (fun _ => rfl)) rfl ?_ | refine AL_ev (Ev_load_rp rfl rfl rfl ts9 ta9 rfl (fun _ => rfl)) rfl ?_
            refine AL_ev (Ev_sneq rfl rfl) rfl ?_
            refine AL_ev (Ev_move) rfl ?_
            refine AL_bool 51 rfl (fun hg11 => ?_) (fun hg11 => ?_)
            · skip
              refine AL_guard_f rfl rfl rfl rfl ?_
              refine AL_guard_f rfl rfl rfl rfl ?_
              refine AL_guard_f rfl rfl rfl rfl ?_
              refine AL_guard_f rfl rfl rfl rfl ?_
              refine AL_ev (Ev_pick rfl) rfl ?_
              refine AL_ev (Ev_move) rfl ?_
              refine AL_guard_f rfl rfl rfl rfl ?_
              refine AL_guard_f rfl rfl rfl rfl ?_
              refine AL_guard_f rfl rfl rfl rfl ?_
              refine AL_guard_f rfl rfl rfl rfl ?_
              refine AL_ev (Ev_pick rfl) rfl ?_
              refine AL_nil ?_
              refine hK18 _ _ _ ?_
              refine AC_cond_t rfl ?_
              refine AC_seq fun K19 hK19 => ?_
              refine AC_region ?_
              refine AL_ev (Ev_assign) rfl ?_
              refine AL_nil ?_
              refine hK19 _ _ _ ?_
              refine AC_ret ?_
              refine ret_ok hdm (.tmp rfl rfl .nil) (.cons .d .nil) ?_
              try rw [sized]
              try rw [hI]
              try rw [hdr]
              try simp_all [List.length_pos_iff, sizedL, oneB, inB]
              try omega
            · skip
              refine AL_guard_t rfl rfl rfl ?_
              first | refine AL_ev (Ev_fa_ptr rfl fa35_2 rfl rfl) rfl ?_ | refine AL_ev (Ev_fa_rp rfl fa35_2 rfl rfl) rfl ?_
              refine AL_guard_t rfl rfl rfl ?_
              first | refine AL_ev (Ev_load_ptr rfl rfl rfl rfl rfl rfl ts3 ta3 rfl (fun _ => rfl)) rfl ?_ | refine AL_ev (Ev_load_rp rfl rfl rfl ts3 ta3 rfl (fun _ => rfl)) rfl ?_
              refine AL_guard_t rfl rfl rfl ?_
              refine AL_fcall0 hT rfl cl92 (c_within m (-999999999) 999999999) rfl rfl ?_
              refine AL_guard_t rfl rfl rfl ?_
              refine AL_ev (Ev_not rfl) rfl ?_
              refine AL_ev (Ev_pick rfl) rfl ?_
              refine AL_ev (Ev_move) rfl ?_
              refine AL_bool 57 rfl (fun hg12 => ?_) (fun hg12 => ?_)
              · skip
                refine AL_guard_f rfl rfl rfl rfl ?_
                refine AL_guard_f rfl rfl rfl rfl ?_
                refine AL_guard_f rfl rfl rfl rfl ?_
                refine AL_guard_f rfl rfl rfl rfl ?_
                refine AL_ev (Ev_pick rfl) rfl ?_
                refine AL_nil ?_
                refine hK18 _ _ _ ?_
                refine AC_cond_t rfl ?_
                refine AC_seq fun K20 hK20 => ?_
                refine AC_region ?_
                refine AL_ev (Ev_assign) rfl ?_
                refine AL_nil ?_
                refine hK20 _ _ _ ?_
                refine AC_ret ?_
                refine ret_ok hdm (.tmp rfl rfl .nil) (.cons .d .nil) ?_
                try rw [sized]
                try rw [hI]
                try rw [hdr]
                try simp_all [List.length_pos_iff, sizedL, oneB, inB]
                try omega
              · skip
                refine AL_guard_t rfl rfl rfl ?_
                first | refine AL_ev (Ev_fa_ptr rfl fa35_3 rfl rfl) rfl ?_ | refine AL_ev (Ev_fa_rp rfl fa35_3 rfl rfl) rfl ?_
                refine AL_guard_t rfl rfl rfl ?_
                first | refine AL_ev (Ev_load_ptr rfl rfl rfl rfl rfl rfl ts24 ta24 rfl (fun _ => rfl)) rfl ?_ | refine AL_ev (Ev_load_rp rfl rfl rfl ts24 ta24 rfl (fun _ => rfl)) rfl ?_
                refine AL_guard_t rfl rfl rfl ?_
                first | refine AL_lim (x := (Operand.tmp 59)) rfl fun hl3 => ?_ | refine AL_limB (x := (Operand.tmp 59)) rfl rfl (by first | rfl | (simp; done) | (simp; omega)) fun hl3 => ?_ | have hl3 := True.intro
                try simp only [injs_length, ints_length, strs_length, injCs_length, u8s_length, List.length_map] at hl3
                first | refine AL_ev (Ev_len_injs te24 rfl) rfl ?_ | refine AL_ev (Ev_len_sl te24 rfl) rfl ?_ | refine AL_ev (Ev_len_ref te24 rfl) rfl ?_ | refine AL_ev (Ev_len_nil te24 rfl) rfl ?_ | refine AL_ev (Ev_len_c te24 rfl) rfl ?_
                refine AL_guard_t rfl rfl rfl ?_
                refine AL_ev (Ev_gtr rfl rfl) rfl ?_
                refine AL_ev (Ev_pick rfl) rfl ?_
                refine AL_nil ?_
                refine hK18 _ _ _ ?_
                refine AC_cond rfl (fun hc13 => ?_) (fun hc13 => ?_)
                · skip
                  refine AC_seq fun K21 hK21 => ?_
                  refine AC_region ?_
                  refine AL_ev (Ev_assign) rfl ?_
                  refine AL_nil ?_
                  refine hK21 _ _ _ ?_
                  refine AC_ret ?_
                  refine ret_ok hdm (.tmp rfl rfl .nil) (.cons .d .nil) ?_
                  try rw [sized]
                  try rw [hI]
                  try rw [hdr]
                  try simp_all [List.length_pos_iff, sizedL, oneB, inB]
                  try omega
                · skip
                  refine AC_skip ?_
                  refine joinF [] rfl rfl ?_ BxTo_nil (SlTo_cons (by first | exact .rd .d | exact Vw_int (by first | rfl | assumption | omega | (simp; done) | (simp; omega) | (simp_all []; done) | (simp_all []; omega)) | exact Vw_c (by first | rfl | (simp; done) | (simp_all []; done)) | exact .any) (SlTo_cons (by first | exact .rd (.ptr (srcFree rfl) rfl rfl rfl .d) | exact .rd .d) SlTo_nil))
                  refine ⟨?_, by first | omega | simp_all⟩
                  try rw [oneB]
                  try rw [hI]
                  try rw [hdr]
                  try simp_all [List.length_pos_iff, inB]
                  try omega
          · skip
            refine AC_seq fun K22 hK22 => ?_
            refine AC_region ?_
            refine AL_ev (Ev_eql rfl rfl) rfl ?_
            refine AL_ev (Ev_assign) rfl ?_
            refine AL_nil ?_
            refine hK22 _ _ _ ?_
            refine AC_cond rfl (fun hc14 => ?_) (fun hc14 => ?_)
            · skip
              refine AC_seq fun K23 hK23 => ?_
              refine AC_region ?_
              first | refine AL_ev (Ev_fa_ptr rfl fa35_1 rfl rfl) rfl ?_ | refine AL_ev (Ev_fa_rp rfl fa35_1 rfl rfl) rfl ?_
              first | refine AL_ev (Ev_load_ptr rfl rfl rfl rfl rfl rfl ts9 ta9 rfl (fun _ => rfl)) rfl ?_ | refine AL_ev (Ev_load_rp rfl rfl rfl ts9 ta9 rfl (fun _ => rfl)) rfl ?_
              refine AL_fcall0 hT rfl cl93 (c_nameOk s (by omega)) rfl rfl ?_
              refine AL_ev (Ev_not rfl) rfl ?_
              refine AL_ev (Ev_move) rfl ?_
              refine AL_bool 69 rfl (fun hg15 => ?_) (fun hg15 => ?_)
              · skip
                refine AL_guard_f rfl rfl rfl rfl ?_
                refine AL_guard_f rfl rfl rfl rfl ?_
                refine AL_guard_f rfl rfl rfl rfl ?_
                refine AL_ev (Ev_pick rfl) rfl ?_
                refine AL_ev (Ev_move) rfl ?_
                refine AL_guard_f rfl rfl rfl rfl ?_
                refine AL_guard_f rfl rfl rfl rfl ?_
                refine AL_guard_f rfl rfl rfl rfl ?_
                refine AL_guard_f rfl rfl rfl rfl ?_
                refine AL_guard_f rfl rfl rfl rfl ?_
                refine AL_ev (Ev_pick rfl) rfl ?_
                refine AL_nil ?_
                refine hK23 _ _ _ ?_
                refine AC_cond_t rfl ?_
                refine AC_seq fun K24 hK24 => ?_
                refine AC_region ?_
                refine AL_ev (Ev_assign) rfl ?_
                refine AL_nil ?_
                refine hK24 _ _ _ ?_
                refine AC_ret ?_
                refine ret_ok hdm (.tmp rfl rfl .nil) (.cons .d .nil) ?_
                try rw [sized]
                try rw [hI]
                try rw [hdr]
                try simp_all [List.length_pos_iff, sizedL, oneB, inB]
                try omega
              · skip
                refine AL_guard_t rfl rfl rfl ?_
                first | refine AL_ev (Ev_fa_ptr rfl fa35_2 rfl rfl) rfl ?_ | refine AL_ev (Ev_fa_rp rfl fa35_2 rfl rfl) rfl ?_
                refine AL_guard_t rfl rfl rfl ?_
                first | refine AL_ev (Ev_load_ptr rfl rfl rfl rfl rfl rfl ts3 ta3 rfl (fun _ => rfl)) rfl ?_ | refine AL_ev (Ev_load_rp rfl rfl rfl ts3 ta3 rfl (fun _ => rfl)) rfl ?_
                refine AL_guard_t rfl rfl rfl ?_
                refine AL_ev (Ev_neq rfl rfl) rfl ?_
                refine AL_ev (Ev_pick rfl) rfl ?_
                refine AL_ev (Ev_move) rfl ?_
                refine AL_bool 74 rfl (fun hg16 => ?_) (fun hg16 => ?_)
                · skip
                  refine AL_guard_f rfl rfl rfl rfl ?_
                  refine AL_guard_f rfl rfl rfl rfl ?_
                  refine AL_guard_f rfl rfl rfl rfl ?_
                  refine AL_guard_f rfl rfl rfl rfl ?_
                  refine AL_guard_f rfl rfl rfl rfl ?_
                  refine AL_ev (Ev_pick rfl) rfl ?_
                  refine AL_nil ?_
                  refine hK23 _ _ _ ?_
                  refine AC_cond_t rfl ?_
                  refine AC_seq fun K25 hK25 => ?_
                  refine AC_region ?_
                  refine AL_ev (Ev_assign) rfl ?_
                  refine AL_nil ?_
                  refine hK25 _ _ _ ?_
                  refine AC_ret ?_
                  refine ret_ok hdm (.tmp rfl rfl .nil) (.cons .d .nil) ?_
                  try rw [sized]
                  try rw [hI]
                  try rw [hdr]
                  try simp_all [List.length_pos_iff, sizedL, oneB, inB]
                  try omega
                · skip
                  refine AL_guard_t rfl rfl rfl ?_
                  first | refine AL_ev (Ev_fa_ptr rfl fa35_3 rfl rfl) rfl ?_ | refine AL_ev (Ev_fa_rp rfl fa35_3 rfl rfl) rfl ?_
                  refine AL_guard_t rfl rfl rfl ?_
                  first | refine AL_ev (Ev_load_ptr rfl rfl rfl rfl rfl rfl ts24 ta24 rfl (fun _ => rfl)) rfl ?_ | refine AL_ev (Ev_load_rp rfl rfl rfl ts24 ta24 rfl (fun _ => rfl)) rfl ?_
                  refine AL_guard_t rfl rfl rfl ?_
                  first | refine AL_lim (x := (Operand.tmp 76)) rfl fun hl4 => ?_ | refine AL_limB (x := (Operand.tmp 76)) rfl rfl (by first | rfl | (simp; done) | (simp; omega)) fun hl4 => ?_ | have hl4 := True.intro
                  try simp only [injs_length, ints_length, strs_length, injCs_length, u8s_length, List.length_map] at hl4
                  first | refine AL_ev (Ev_len_injs te24 rfl) rfl ?_ | refine AL_ev (Ev_len_sl te24 rfl) rfl ?_ | refine AL_ev (Ev_len_ref te24 rfl) rfl ?_ | refine AL_ev (Ev_len_nil te24 rfl) rfl ?_ | refine AL_ev (Ev_len_c te24 rfl) rfl ?_
                  refine AL_guard_t rfl rfl rfl ?_
                  refine AL_fcall0 hT rfl cl92 (c_within ks.length 1 5) rfl rfl ?_
                  refine AL_guard_t rfl rfl rfl ?_
                  refine AL_ev (Ev_not rfl) rfl ?_
                  refine AL_ev (Ev_pick rfl) rfl ?_
                  refine AL_nil ?_
                  refine hK23 _ _ _ ?_
                  refine AC_cond rfl (fun hc17 => ?_) (fun hc17 => ?_)
                  · skip
                    refine AC_seq fun K26 hK26 => ?_
                    refine AC_region ?_
                    refine AL_ev (Ev_assign) rfl ?_
                    refine AL_nil ?_
                    refine hK26 _ _ _ ?_
                    refine AC_ret ?_
                    refine ret_ok hdm (.tmp rfl rfl .nil) (.cons .d .nil) ?_
                    try rw [sized]
                    try rw [hI]
                    try rw [hdr]
                    try simp_all [List.length_pos_iff, sizedL, oneB, inB]
                    try omega
                  · skip
                    refine AC_skip ?_
                    refine joinF [] rfl rfl ?_ BxTo_nil (SlTo_cons (by first | exact .rd .d | exact Vw_int (by first | rfl | assumption | omega | (simp; done) | (simp; omega) | (simp_all []; done) | (simp_all []; omega)) | exact Vw_c (by first | rfl | (simp; done) | (simp_all []; done)) | exact .any) (SlTo_cons (by first | exact .rd (.ptr (srcFree rfl) rfl rfl rfl .d) | exact .rd .d) SlTo_nil))
                    refine ⟨?_, by first | omega | simp_all⟩
                    try rw [oneB]
                    try rw [hI]
                    try rw [hdr]
                    try simp_all [List.length_pos_iff, inB]
                    try omega
            · skip
              refine AC_seq fun K27 hK27 => ?_
              refine AC_region ?_
              refine AL_ev (Ev_assign) rfl ?_
              refine AL_nil ?_
              refine hK27 _ _ _ ?_
              refine AC_ret ?_
              refine ret_ok hdm (.tmp rfl rfl .nil) (.cons .d .nil) ?_
              try rw [sized]
              try rw [hI]
              try rw [hdr]
              try simp_all [List.length_pos_iff, sizedL, oneB, inB]
              try omega
    · skip
      rintro f L ⟨⟨hF, hd2⟩, rfl, rfl⟩
      refine AC_seq fun K28 hK28 => ?_
      refine AC_region ?_
      refine AL_ev (Ev_assign) rfl ?_
      refine AL_nil ?_
      refine hK28 _ _ _ ?_
      refine AC_seq fun K29 hK29 => ?_
      refine AC_seq fun K30 hK30 => ?_
      refine AC_region ?_
      first | refine AL_ev (Ev_fa_ptr rfl fa35_3 rfl rfl) rfl ?_ | refine AL_ev (Ev_fa_rp rfl fa35_3 rfl rfl) rfl ?_
      first | refine AL_ev (Ev_load_ptr rfl rfl rfl rfl rfl rfl ts24 ta24 rfl (fun _ => rfl)) rfl ?_ | refine AL_ev (Ev_load_rp rfl rfl rfl ts24 ta24 rfl (fun _ => rfl)) rfl ?_
      first | refine AL_lim (x := (Operand.tmp 82)) rfl fun hl5 => ?_ | refine AL_limB (x := (Operand.tmp 82)) rfl rfl (by first | rfl | (simp; done) | (simp; omega)) fun hl5 => ?_ | have hl5 := True.intro
      try simp only [injs_length, ints_length, strs_length, injCs_length, u8s_length, List.length_map] at hl5
      first | refine AL_ev (Ev_len_injs te24 rfl) rfl ?_ | refine AL_ev (Ev_len_sl te24 rfl) rfl ?_ | refine AL_ev (Ev_len_ref te24 rfl) rfl ?_ | refine AL_ev (Ev_len_nil te24 rfl) rfl ?_ | refine AL_ev (Ev_len_c te24 rfl) rfl ?_
      refine AL_ev (Ev_move) rfl ?_
      refine AL_nil ?_
      refine hK30 _ _ _ ?_
      refine AC_block ?_
      refine AC_loopS [1, 82, 83] (Nat × Int) (fun ⟨j, n⟩ => [(84, i64 j), (5, i64 n)]) (fun ⟨j, n⟩ => []) (fun st => ks.length - st.1) (fun ⟨j, n⟩ => j ≤ ks.length ∧ (sizedL ks (d + 1) 1 = sizedL (ks.drop j) (d + 1) n ∧ 0 ≤ n ∧ n ≤ 400)) ((0, 1)) ?_ ?_ ?_
      · skip
        exact enterS [] rfl rfl BxTo_nil (SlTo_cons (by first | exact .rd .d | exact Vw_int (by first | rfl | assumption | omega | (simp; done) | (simp; omega)) | exact Vw_c (by first | rfl | (simp; done) | simp_all) | exact .any) (SlTo_cons (by first | exact .rd .d | exact Vw_int (by first | rfl | assumption | omega | (simp; done) | (simp; omega)) | exact Vw_c (by first | rfl | (simp; done) | simp_all) | exact .any) (SlTo_cons (by first | exact .rd .d | exact .any) (SlTo_cons (by first | exact .rd .d | exact .any) (SlTo_cons (by first | exact .rd .d | exact .any) SlTo_nil)))))
      · skip
        exact ⟨Nat.zero_le _, by simp⟩
      rintro ⟨j, n⟩ ⟨hj, ⟨hI, hn0, hn1⟩⟩
      show AC _ _ _ _ _ (FS [1, 82, 83] _ [(84, i64 j), (5, i64 n)]) []
      refine AC_seq fun K31 hK31 => ?_
      refine AC_region ?_
      refine AL_ev (Ev_lss rfl rfl) rfl ?_
      refine AL_nil ?_
      refine hK31 _ _ _ ?_
      refine AC_seq fun K32 hK32 => ?_
      refine AC_cond rfl (fun hc18 => ?_) (fun hc18 => ?_)
      · skip
        have hlt : j < ks.length := by simpa using hc18
        obtain ⟨u, hu⟩ : ∃ x, ks[j]? = some x := ⟨_, List.getElem?_eq_getElem hlt⟩
        have hu2 := injs_get hu
        have hdr := drop_get hu
        have hub := sized_bd u (d + 1)
        refine AC_skip ?_
        refine hK32 _ _ _ ?_
        refine AC_seq fun K33 hK33 => ?_
        refine AC_block ?_
        refine AC_seq fun K34 hK34 => ?_
        refine AC_region ?_
        first | refine AL_ev (Ev_ix_sl rfl rfl te24 ts35 (by omega) (by assumption)) rfl ?_ | refine AL_ev (Ev_ix_ref rfl rfl te24 ts35 (by omega) (by first | omega | (simp; omega))) rfl ?_
        first | refine AL_ev (Ev_load_ptr rfl rfl rfl rfl rfl rfl ts35 ta35 (by first | rfl | assumption | simp) (by intro h; cases h)) rfl ?_ | refine AL_ev (Ev_load_rp rfl rfl rfl ts35 ta35 (by first | rfl | assumption | simp) (by intro h; cases h)) rfl ?_
        refine AL_alloc zo35 _ rfl rfl ?_
        first | refine AL_store rfl (nf rfl) rfl rfl rfl rfl rfl rfl (by first | rfl | assumption | simp [Lay.len, Lay.lens]) ts35 rfl rfl ?_ | refine AL_store rfl (nf rfl) rfl rfl rfl hes rfl rfl (by first | rfl | assumption | simp [Lay.len, Lay.lens]) ts35 rfl rfl ?_
        refine AL_nil ?_
        refine hK34 _ _ _ ?_
        refine AC_seq fun K35 hK35 => ?_
        refine AC_region ?_
        refine AL_ev (Ev_move) rfl ?_
        first | refine AL_ev (Ev_load_ptr rfl rfl rfl rfl rfl rfl ts35 ta35 (by first | rfl | assumption | simp) (by intro h; cases h)) rfl ?_ | refine AL_ev (Ev_load_rp rfl rfl rfl ts35 ta35 (by first | rfl | assumption | simp) (by intro h; cases h)) rfl ?_
        refine AL_ev (Ev_move) rfl ?_
        first | refine AL_ev (Ev_add rfl rfl _ (wrap_id (by first | omega | (simp; omega)) (by first | omega | (simp; omega)))) rfl ?_ | refine AL_ev (Ev_add rfl rfl _ rfl) rfl ?_
        refine AL_fcall0 hT rfl cl70 (ih u (List.mem_of_getElem? hu) (hku u (List.mem_of_getElem? hu)) (d + 1) (by omega) (by omega)) rfl rfl ?_
        first | refine AL_ev (Ev_add rfl rfl _ (wrap_id (by first | omega | (simp; omega)) (by first | omega | (simp; omega)))) rfl ?_ | refine AL_ev (Ev_add rfl rfl _ rfl) rfl ?_
        refine AL_ev (Ev_assign) rfl ?_
        refine AL_nil ?_
        refine hK35 _ _ _ ?_
        refine AC_seq fun K36 hK36 => ?_
        refine AC_region ?_
        refine AL_ev (Ev_move) rfl ?_
        refine AL_ev (Ev_gtr rfl rfl) rfl ?_
        refine AL_nil ?_
        refine hK36 _ _ _ ?_
        refine AC_cond rfl (fun hc19 => ?_) (fun hc19 => ?_)
        · skip
          refine AC_seq fun K37 hK37 => ?_
          refine AC_region ?_
          refine AL_ev (Ev_assign) rfl ?_
          refine AL_nil ?_
          refine hK37 _ _ _ ?_
          refine AC_ret ?_
          refine ret_ok hdm (.tmp rfl rfl .nil) (.cons .d .nil) ?_
          try rw [sized]
          try rw [hI]
          try rw [hdr]
          try simp_all [List.length_pos_iff, sizedL, oneB, inB]
          try omega
        · skip
          refine AC_skip ?_
          refine hK33 _ _ _ ?_
          refine AC_region ?_
          first | refine AL_ev (Ev_add rfl rfl _ (wrap_id (by first | omega | (simp; omega)) (by first | omega | (simp; omega)))) rfl ?_ | refine AL_ev (Ev_add rfl rfl _ rfl) rfl ?_
          refine AL_ev (Ev_move) rfl ?_
          refine AL_nil ?_
          refine closeS (j + 1, n + sized u (d + 1)) [] rfl rfl (by show ks.length - (j + 1) < ks.length - j; omega) ⟨hlt, ?_⟩ BxTo_nil (SlTo_cons (by first | exact .rd .d | exact Vw_int (by first | rfl | assumption | omega | (simp; done) | (simp; omega)) | exact Vw_c (by first | rfl | (simp; done) | simp_all) | exact .any) (SlTo_cons (by first | exact .rd .d | exact Vw_int (by first | rfl | assumption | omega | (simp; done) | (simp; omega)) | exact Vw_c (by first | rfl | (simp; done) | simp_all) | exact .any) (SlTo_cons (by first | exact .rd .d | exact .any) (SlTo_cons (by first | exact .rd .d | exact .any) (SlTo_cons (by first | exact .rd .d | exact .any) SlTo_nil)))))
          refine ⟨?_, by omega, (by first | omega | (simp_all; done) | (simp_all; omega))⟩
          rw [hI]
          try rw [hdr]
          try simp_all [sizedL]
          try omega
      · skip
        have hj2 : j = ks.length := by
          have : ¬ j < ks.length := by simpa using hc18
          omega
        subst hj2
        rw [List.drop_length] at hI
        refine AC_exit ?_
        refine hK29 _ _ _ ?_
        refine AC_seq fun K38 hK38 => ?_
        refine AC_region ?_
        refine AL_ev (Ev_move) rfl ?_
        refine AL_ev (Ev_assign) rfl ?_
        refine AL_nil ?_
        refine hK38 _ _ _ ?_
        refine AC_ret ?_
        refine ret_ok hdm (.tmp rfl rfl .nil) (.cons .d .nil) ?_
        try rw [sized]
        try rw [hI]
        try rw [hdr]
        try simp_all [List.length_pos_iff, sizedL, oneB, inB]
        try omega

set_option maxHeartbeats 1000000 in
set_option maxRecDepth 4000 in
theorem c_termOk (t : T) (hb : bulk t ≤ 1099511627776) : PCall Try.prog 40 [inj t] (· = [.c (.bool (okT t))]) := by
  refine PCall_of (n := 6) Try.func40 rfl rfl (Nat.le_of_ble_eq_true rfl) fun C hdm hT0 => ?_
  have hT := hT0
  refine AC_seq fun K1 hK1 => ?_
  refine AC_region ?_
  refine AL_box (Lay.st [.one, .one, .one, .one]) (nf rfl) rfl (by first | rfl | simp [Lay.len, Lay.lens]) _ rfl rfl ?_
  refine AL_ev (Ev_assign) rfl ?_
  refine AL_nil ?_
  refine hK1 _ _ _ ?_
  refine AC_seq fun K2 hK2 => ?_
  refine AC_region ?_
  first | refine AL_ev (Ev_load_ptr rfl rfl rfl rfl rfl rfl ts35 ta35 (by first | rfl | assumption | simp) (by intro h; cases h)) rfl ?_ | refine AL_ev (Ev_load_rp rfl rfl rfl ts35 ta35 (by first | rfl | assumption | simp) (by intro h; cases h)) rfl ?_
  refine AL_fcall0 hT rfl cl70 (c_sized t hb 1 (by omega) (by omega)) rfl rfl ?_
  refine AL_ev (Ev_leq rfl rfl) rfl ?_
  refine AL_ev (Ev_assign) rfl ?_
  refine AL_nil ?_
  refine hK2 _ _ _ ?_
  refine AC_ret ?_
  exact ret_ok hdm (.tmp rfl rfl .nil) (.cons .d .nil) rfl

set_option maxHeartbeats 1000000 in
set_option maxRecDepth 4000 in
theorem c_l03Count (t : T) : bulk t ≤ 1099511627776 → ∀ r : Int, 0 ≤ r → r ≤ 1000 → PCall Try.prog 80 [inj t, .c (.int .i64 r)] (· = [.c (.int .i64 (lcount t r))]) := by
  induction t using T.ind with | h k s m ks ih => ?_
  intro hb r hr0 hr1
  obtain ⟨hs, hkl, hku⟩ := bulk_mk hb
  refine PCall_of (n := 27) Try.func80 rfl rfl (Nat.le_of_ble_eq_true rfl) fun C hdm hT0 => ?_
  have hT := hT0
  refine AC_seq fun K1 hK1 => ?_
  refine AC_region ?_
  refine AL_box (Lay.st [.one, .one, .one, .one]) (nf rfl) rfl (by first | rfl | simp [Lay.len, Lay.lens]) _ rfl rfl ?_
  refine AL_ev (Ev_assign) rfl ?_
  refine AL_nil ?_
  refine hK1 _ _ _ ?_
  refine AC_seq fun K2 hK2 => ?_
  refine AC_region ?_
  refine AL_ev (Ev_move) rfl ?_
  first | refine AL_ev (Ev_sub rfl rfl _ (wrap_id (by first | omega | (simp; omega)) (by first | omega | (simp; omega)))) rfl ?_ | refine AL_ev (Ev_sub rfl rfl _ rfl) rfl ?_
  refine AL_ev (Ev_assign) rfl ?_
  refine AL_nil ?_
  refine hK2 _ _ _ ?_
  refine AC_seq fun K3 hK3 => ?_
  refine AC_seq fun K4 hK4 => ?_
  refine AC_region ?_
  refine AL_ev (Ev_assign) rfl ?_
  refine AL_nil ?_
  refine hK4 _ _ _ ?_
  refine AC_block ?_
  refine AC_loopS [] (Nat × Int) (fun ⟨j, q⟩ => [(5, i64 j), (1, i64 q), (2, .d (.rp (Lay.st [.one, .one, .one, .one]) (inj (.mk k s m ks)) []))]) (fun ⟨j, q⟩ => []) (fun st => ks.length - st.1) (fun ⟨j, q⟩ => j ≤ ks.length ∧ (lcountL ks (r - 1) = lcountL (ks.drop j) q ∧ -1 ≤ q ∧ q ≤ r)) ((0, r - 1)) ?_ ?_ ?_
  · skip
    exact enterS [] rfl rfl BxTo_nil (SlTo_cons (by first | exact .rd .d | exact Vw_int (by first | rfl | assumption | omega | (simp; done) | (simp; omega)) | exact Vw_c (by first | rfl | (simp; done) | simp_all) | exact .any) (SlTo_cons (by first | exact .rd .d | exact Vw_int (by first | rfl | assumption | omega | (simp; done) | (simp; omega)) | exact Vw_c (by first | rfl | (simp; done) | simp_all) | exact .any) (SlTo_cons (by first | exact .rd (.ptr (srcFree rfl) rfl rfl rfl .d) | exact .rd .d) SlTo_nil)))
  · skip
    exact ⟨Nat.zero_le _, by simp, by omega, by omega⟩
  rintro ⟨j, q⟩ ⟨hj, ⟨hI, hq0, hq1⟩⟩
  show AC _ _ _ _ _ (FS [] _ [(5, i64 j), (1, i64 q), (2, .d (.rp (Lay.st [.one, .one, .one, .one]) (inj (.mk k s m ks)) []))]) []
  refine AC_seq fun K5 hK5 => ?_
  refine AC_seq fun K6 hK6 => ?_
  refine AC_region ?_
  refine AL_ev (Ev_move) rfl ?_
  first | refine AL_ev (Ev_fa_ptr rfl fa35_3 rfl rfl) rfl ?_ | refine AL_ev (Ev_fa_rp rfl fa35_3 rfl rfl) rfl ?_
  first | refine AL_ev (Ev_load_ptr rfl rfl rfl rfl rfl rfl ts24 ta24 rfl (fun _ => rfl)) rfl ?_ | refine AL_ev (Ev_load_rp rfl rfl rfl ts24 ta24 rfl (fun _ => rfl)) rfl ?_
  first | refine AL_lim (x := (Operand.tmp 10)) rfl fun hl1 => ?_ | refine AL_limB (x := (Operand.tmp 10)) rfl rfl (by first | rfl | (simp; done) | (simp; omega)) fun hl1 => ?_ | have hl1 := True.intro
  try simp only [injs_length, ints_length, strs_length, injCs_length, u8s_length, List.length_map] at hl1
  first | refine AL_ev (Ev_len_injs te24 rfl) rfl ?_ | refine AL_ev (Ev_len_sl te24 rfl) rfl ?_ | refine AL_ev (Ev_len_ref te24 rfl) rfl ?_ | refine AL_ev (Ev_len_nil te24 rfl) rfl ?_ | refine AL_ev (Ev_len_c te24 rfl) rfl ?_
  refine AL_ev (Ev_lss rfl rfl) rfl ?_
  refine AL_ev (Ev_move) rfl ?_
  refine AL_bool 13 rfl (fun hg1 => ?_) (fun hg1 => ?_)
  · skip
    have hlt : j < ks.length := by simpa using hg1
    obtain ⟨u, hu⟩ : ∃ x, ks[j]? = some x := ⟨_, List.getElem?_eq_getElem hlt⟩
    have hu2 := injs_get hu
    have hdr := drop_get hu
    refine AL_guard_t rfl rfl rfl ?_
    refine AL_ev (Ev_move) rfl ?_
    refine AL_guard_t rfl rfl rfl ?_
    refine AL_ev (Ev_geq rfl rfl) rfl ?_
    refine AL_ev (Ev_pick rfl) rfl ?_
    refine AL_nil ?_
    refine hK6 _ _ _ ?_
    refine AC_cond rfl (fun hc2 => ?_) (fun hc2 => ?_)
    · skip
      refine AC_skip ?_
      refine hK5 _ _ _ ?_
      refine AC_seq fun K7 hK7 => ?_
      refine AC_block ?_
      refine AC_region ?_
      first | refine AL_ev (Ev_fa_ptr rfl fa35_3 rfl rfl) rfl ?_ | refine AL_ev (Ev_fa_rp rfl fa35_3 rfl rfl) rfl ?_
      first | refine AL_ev (Ev_load_ptr rfl rfl rfl rfl rfl rfl ts24 ta24 rfl (fun _ => rfl)) rfl ?_ | refine AL_ev (Ev_load_rp rfl rfl rfl ts24 ta24 rfl (fun _ => rfl)) rfl ?_
      refine AL_ev (Ev_move) rfl ?_
      first | refine AL_ev (Ev_ix_sl rfl rfl te24 ts35 (by omega) (by assumption)) rfl ?_ | refine AL_ev (Ev_ix_ref rfl rfl te24 ts35 (by omega) (by first | omega | (simp; omega))) rfl ?_
      first | refine AL_ev (Ev_load_ptr rfl rfl rfl rfl rfl rfl ts35 ta35 (by first | rfl | assumption | simp) (by intro h; cases h)) rfl ?_ | refine AL_ev (Ev_load_rp rfl rfl rfl ts35 ta35 (by first | rfl | assumption | simp) (by intro h; cases h)) rfl ?_
      refine AL_ev (Ev_move) rfl ?_
      refine AL_fcall0 hT rfl cl80 (ih u (List.mem_of_getElem? hu) (hku u (List.mem_of_getElem? hu)) q (by simpa using hc2) (by omega)) rfl rfl ?_
      refine AL_ev (Ev_assign) rfl ?_
      refine AL_nil ?_
      refine hK7 _ _ _ ?_
      refine AC_region ?_
      refine AL_ev (Ev_move) rfl ?_
      first | refine AL_ev (Ev_add rfl rfl _ (wrap_id (by first | omega | (simp; omega)) (by first | omega | (simp; omega)))) rfl ?_ | refine AL_ev (Ev_add rfl rfl _ rfl) rfl ?_
      refine AL_ev (Ev_assign) rfl ?_
      refine AL_nil ?_
      refine closeS (j + 1, lcount u q) [] rfl rfl (by show ks.length - (j + 1) < ks.length - j; omega) ⟨hlt, ?_⟩ BxTo_nil (SlTo_cons (by first | exact .rd .d | exact Vw_int (by first | rfl | assumption | omega | (simp; done) | (simp; omega)) | exact Vw_c (by first | rfl | (simp; done) | simp_all) | exact .any) (SlTo_cons (by first | exact .rd .d | exact Vw_int (by first | rfl | assumption | omega | (simp; done) | (simp; omega)) | exact Vw_c (by first | rfl | (simp; done) | simp_all) | exact .any) (SlTo_cons (by first | exact .rd (.ptr (srcFree rfl) rfl rfl rfl .d) | exact .rd .d) SlTo_nil)))
      have hq2 : 0 ≤ q := by simpa using hc2
      have hub := lcount_bd u q hq2
      refine ⟨?_, by omega, by omega⟩
      rw [hI, hdr, lcountL, if_pos hq2]
    · skip
      refine AC_exit ?_
      refine hK3 _ _ _ ?_
      refine AC_seq fun K8 hK8 => ?_
      refine AC_region ?_
      refine AL_ev (Ev_move) rfl ?_
      refine AL_ev (Ev_assign) rfl ?_
      refine AL_nil ?_
      refine hK8 _ _ _ ?_
      refine AC_ret ?_
      refine ret_ok hdm (.tmp rfl rfl .nil) (.cons .d .nil) ?_
      have hq2 : ¬ 0 ≤ q := by simpa using hc2
      rw [lcount, hI, hdr, lcountL, if_neg hq2]
  · skip
    have hj2 : j = ks.length := by
      have : ¬ j < ks.length := by simpa using hg1
      omega
    subst hj2
    rw [List.drop_length] at hI
    refine AL_guard_f rfl rfl rfl rfl ?_
    refine AL_guard_f rfl rfl rfl rfl ?_
    refine AL_ev (Ev_pick rfl) rfl ?_
    refine AL_nil ?_
    refine hK6 _ _ _ ?_
    first | refine AC_cond_f rfl ?_ | refine AC_cond_f (congrArg bl hc2) ?_
    refine AC_exit ?_
    refine hK3 _ _ _ ?_
    refine AC_seq fun K9 hK9 => ?_
    refine AC_region ?_
    refine AL_ev (Ev_move) rfl ?_
    refine AL_ev (Ev_assign) rfl ?_
    refine AL_nil ?_
    refine hK9 _ _ _ ?_
    refine AC_ret ?_
    refine ret_ok hdm (.tmp rfl rfl .nil) (.cons .d .nil) ?_
    rw [lcount, hI, lcountL]

set_option maxHeartbeats 1000000 in
set_option maxRecDepth 4000 in
theorem c_l03Right (t : T) : bulk t ≤ 1099511627776 → ∀ d : Int, 0 ≤ d → d ≤ 1000 → PCall Try.prog 81 [inj t, .c (.int .i64 d)] (· = [.c (.bool (lright t d))]) := by
  induction t using T.ind with | h k s m ks ih => ?_
  intro hb d hd0 hd1
  obtain ⟨hs, hkl, hku⟩ := bulk_mk hb
  refine PCall_of (n := 29) Try.func81 rfl rfl (Nat.le_of_ble_eq_true rfl) fun C hdm hT0 => ?_
  have hT := hT0
  refine AC_seq fun K1 hK1 => ?_
  refine AC_region ?_
  refine AL_box (Lay.st [.one, .one, .one, .one]) (nf rfl) rfl (by first | rfl | simp [Lay.len, Lay.lens]) _ rfl rfl ?_
  refine AL_ev (Ev_assign) rfl ?_
  refine AL_nil ?_
  refine hK1 _ _ _ ?_
  refine AC_seqJ (fun f L => (d ≤ 40 ∧ oneB k s m ks.length = true) ∧ f = frOf [(1, i64 d), (2, .d (.rp (Lay.st [.one, .one, .one, .one]) (inj (.mk k s m ks)) []))] ∧ L = []) ?_ ?_
  · skip
    refine AC_seq fun K3 hK3 => ?_
    refine AC_region ?_
    refine AL_ev (Ev_move) rfl ?_
    refine AL_ev (Ev_gtr rfl rfl) rfl ?_
    refine AL_ev (Ev_move) rfl ?_
    refine AL_bool 8 rfl (fun hg1 => ?_) (fun hg1 => ?_)
    · skip
      refine AL_guard_f rfl rfl rfl rfl ?_
      refine AL_guard_f rfl rfl rfl rfl ?_
      refine AL_guard_f rfl rfl rfl rfl ?_
      refine AL_ev (Ev_pick rfl) rfl ?_
      refine AL_nil ?_
      refine hK3 _ _ _ ?_
      refine AC_cond_t rfl ?_
      refine AC_seq fun K4 hK4 => ?_
      refine AC_region ?_
      refine AL_ev (Ev_assign) rfl ?_
      refine AL_nil ?_
      refine hK4 _ _ _ ?_
      refine AC_ret ?_
      refine ret_ok hdm (.tmp rfl rfl .nil) (.cons .d .nil) ?_
      try rw [lright]
      try rw [hI]
      try rw [hdr]
      try simp_all [List.length_pos_iff, lrightL]
      try omega
    · skip
      refine AL_guard_t rfl rfl rfl ?_
      first | refine AL_ev (Ev_load_ptr rfl rfl rfl rfl rfl rfl ts35 ta35 (by first | rfl | assumption | simp) (by intro h; cases h)) rfl ?_ | refine AL_ev (Ev_load_rp rfl rfl rfl ts35 ta35 (by first | rfl | assumption | simp) (by intro h; cases h)) rfl ?_
      refine AL_guard_t rfl rfl rfl ?_
      refine AL_fcall0 hT rfl cl98 (c_l03One k s m ks hb) rfl rfl ?_
      refine AL_guard_t rfl rfl rfl ?_
      refine AL_ev (Ev_not rfl) rfl ?_
      refine AL_ev (Ev_pick rfl) rfl ?_
      refine AL_nil ?_
      refine hK3 _ _ _ ?_
      refine AC_cond rfl (fun hc2 => ?_) (fun hc2 => ?_)
      · skip
        refine AC_seq fun K5 hK5 => ?_
        refine AC_region ?_
        refine AL_ev (Ev_assign) rfl ?_
        refine AL_nil ?_
        refine hK5 _ _ _ ?_
        refine AC_ret ?_
        refine ret_ok hdm (.tmp rfl rfl .nil) (.cons .d .nil) ?_
        try rw [lright]
        try rw [hI]
        try rw [hdr]
        try simp_all [List.length_pos_iff, lrightL]
        try omega
      · skip
        refine AC_skip ?_
        refine joinF [] rfl rfl ?_ BxTo_nil (SlTo_cons (by first | exact .rd .d | exact Vw_int (by first | rfl | assumption | omega | (simp; done) | (simp; omega) | (simp_all []; done) | (simp_all []; omega)) | exact Vw_c (by first | rfl | (simp; done) | (simp_all []; done)) | exact .any) (SlTo_cons (by first | exact .rd (.ptr (srcFree rfl) rfl rfl rfl .d) | exact .rd .d) SlTo_nil))
        simp_all
  · skip
    rintro f L ⟨⟨hd2, hF⟩, rfl, rfl⟩
    refine AC_seq fun K6 hK6 => ?_
    refine AC_seq fun K7 hK7 => ?_
    refine AC_region ?_
    refine AL_ev (Ev_assign) rfl ?_
    refine AL_nil ?_
    refine hK7 _ _ _ ?_
    refine AC_block ?_
    refine AC_loopS [1, 2] (Nat) (fun j => [(5, i64 j)]) (fun j => []) (fun st => ks.length - st) (fun j => j ≤ ks.length ∧ lrightL ks (d + 1) = lrightL (ks.drop j) (d + 1)) (0) ?_ ?_ ?_
    · skip
      exact enterS [] rfl rfl BxTo_nil (SlTo_cons (by first | exact .rd .d | exact Vw_int (by first | rfl | assumption | omega | (simp; done) | (simp; omega)) | exact Vw_c (by first | rfl | (simp; done) | simp_all) | exact .any) (SlTo_cons (by first | exact .rd .d | exact .any) (SlTo_cons (by first | exact .rd .d | exact .any) SlTo_nil)))
    · skip
      exact ⟨Nat.zero_le _, by simp⟩
    rintro j ⟨hj, hI⟩
    show AC _ _ _ _ _ (FS [1, 2] _ [(5, i64 j)]) []
    refine AC_seq fun K8 hK8 => ?_
    refine AC_seq fun K9 hK9 => ?_
    refine AC_region ?_
    refine AL_ev (Ev_move) rfl ?_
    first | refine AL_ev (Ev_fa_ptr rfl fa35_3 rfl rfl) rfl ?_ | refine AL_ev (Ev_fa_rp rfl fa35_3 rfl rfl) rfl ?_
    first | refine AL_ev (Ev_load_ptr rfl rfl rfl rfl rfl rfl ts24 ta24 rfl (fun _ => rfl)) rfl ?_ | refine AL_ev (Ev_load_rp rfl rfl rfl ts24 ta24 rfl (fun _ => rfl)) rfl ?_
    first | refine AL_lim (x := (Operand.tmp 15)) rfl fun hl1 => ?_ | refine AL_limB (x := (Operand.tmp 15)) rfl rfl (by first | rfl | (simp; done) | (simp; omega)) fun hl1 => ?_ | have hl1 := True.intro
    try simp only [injs_length, ints_length, strs_length, injCs_length, u8s_length, List.length_map] at hl1
    first | refine AL_ev (Ev_len_injs te24 rfl) rfl ?_ | refine AL_ev (Ev_len_sl te24 rfl) rfl ?_ | refine AL_ev (Ev_len_ref te24 rfl) rfl ?_ | refine AL_ev (Ev_len_nil te24 rfl) rfl ?_ | refine AL_ev (Ev_len_c te24 rfl) rfl ?_
    refine AL_ev (Ev_lss rfl rfl) rfl ?_
    refine AL_nil ?_
    refine hK9 _ _ _ ?_
    refine AC_cond rfl (fun hc3 => ?_) (fun hc3 => ?_)
    · skip
      have hlt : j < ks.length := by simpa using hc3
      obtain ⟨u, hu⟩ : ∃ x, ks[j]? = some x := ⟨_, List.getElem?_eq_getElem hlt⟩
      have hu2 := injs_get hu
      have hdr := drop_get hu
      refine AC_skip ?_
      refine hK8 _ _ _ ?_
      refine AC_seq fun K10 hK10 => ?_
      refine AC_block ?_
      refine AC_seq fun K11 hK11 => ?_
      refine AC_region ?_
      first | refine AL_ev (Ev_fa_ptr rfl fa35_3 rfl rfl) rfl ?_ | refine AL_ev (Ev_fa_rp rfl fa35_3 rfl rfl) rfl ?_
      first | refine AL_ev (Ev_load_ptr rfl rfl rfl rfl rfl rfl ts24 ta24 rfl (fun _ => rfl)) rfl ?_ | refine AL_ev (Ev_load_rp rfl rfl rfl ts24 ta24 rfl (fun _ => rfl)) rfl ?_
      refine AL_ev (Ev_move) rfl ?_
      first | refine AL_ev (Ev_ix_sl rfl rfl te24 ts35 (by omega) (by assumption)) rfl ?_ | refine AL_ev (Ev_ix_ref rfl rfl te24 ts35 (by omega) (by first | omega | (simp; omega))) rfl ?_
      first | refine AL_ev (Ev_load_ptr rfl rfl rfl rfl rfl rfl ts35 ta35 (by first | rfl | assumption | simp) (by intro h; cases h)) rfl ?_ | refine AL_ev (Ev_load_rp rfl rfl rfl ts35 ta35 (by first | rfl | assumption | simp) (by intro h; cases h)) rfl ?_
      refine AL_ev (Ev_move) rfl ?_
      first | refine AL_ev (Ev_add rfl rfl _ (wrap_id (by first | omega | (simp; omega)) (by first | omega | (simp; omega)))) rfl ?_ | refine AL_ev (Ev_add rfl rfl _ rfl) rfl ?_
      refine AL_fcall0 hT rfl cl81 (ih u (List.mem_of_getElem? hu) (hku u (List.mem_of_getElem? hu)) (d + 1) (by omega) (by omega)) rfl rfl ?_
      refine AL_ev (Ev_not rfl) rfl ?_
      refine AL_nil ?_
      refine hK11 _ _ _ ?_
      refine AC_cond rfl (fun hc4 => ?_) (fun hc4 => ?_)
      · skip
        refine AC_seq fun K12 hK12 => ?_
        refine AC_region ?_
        refine AL_ev (Ev_assign) rfl ?_
        refine AL_nil ?_
        refine hK12 _ _ _ ?_
        refine AC_ret ?_
        refine ret_ok hdm (.tmp rfl rfl .nil) (.cons .d .nil) ?_
        try rw [lright]
        try rw [hI]
        try rw [hdr]
        try simp_all [List.length_pos_iff, lrightL]
        try omega
      · skip
        refine AC_skip ?_
        refine hK10 _ _ _ ?_
        refine AC_region ?_
        refine AL_ev (Ev_move) rfl ?_
        first | refine AL_ev (Ev_add rfl rfl _ (wrap_id (by first | omega | (simp; omega)) (by first | omega | (simp; omega)))) rfl ?_ | refine AL_ev (Ev_add rfl rfl _ rfl) rfl ?_
        refine AL_ev (Ev_assign) rfl ?_
        refine AL_nil ?_
        refine closeS (j + 1) [] rfl rfl (by show ks.length - (j + 1) < ks.length - j; omega) ⟨hlt, ?_⟩ BxTo_nil (SlTo_cons (by first | exact .rd .d | exact Vw_int (by first | rfl | assumption | omega | (simp; done) | (simp; omega)) | exact Vw_c (by first | rfl | (simp; done) | simp_all) | exact .any) (SlTo_cons (by first | exact .rd .d | exact .any) (SlTo_cons (by first | exact .rd .d | exact .any) SlTo_nil)))
        rw [hI]
        try rw [hdr]
        try simp_all [lrightL]
        try omega
    · skip
      have hj2 : j = ks.length := by
        have : ¬ j < ks.length := by simpa using hc3
        omega
      subst hj2
      rw [List.drop_length] at hI
      refine AC_exit ?_
      refine hK6 _ _ _ ?_
      refine AC_seq fun K13 hK13 => ?_
      refine AC_region ?_
      refine AL_ev (Ev_assign) rfl ?_
      refine AL_nil ?_
      refine hK13 _ _ _ ?_
      refine AC_ret ?_
      refine ret_ok hdm (.tmp rfl rfl .nil) (.cons .d .nil) ?_
      try rw [lright]
      try rw [hI]
      try rw [hdr]
      try simp_all [List.length_pos_iff, lrightL]
      try omega

set_option maxHeartbeats 1000000 in
set_option maxRecDepth 4000 in
theorem c_specTermOk (t : T) (hb : bulk t ≤ 1099511627776) : PCall Try.prog 51 [inj t] (· = [.c (.bool (okT t))]) := by
  refine PCall_of (n := 10) Try.func51 rfl rfl (Nat.le_of_ble_eq_true rfl) fun C hdm hT0 => ?_
  have hT := hT0
  refine AC_seq fun K1 hK1 => ?_
  refine AC_region ?_
  refine AL_box (Lay.st [.one, .one, .one, .one]) (nf rfl) rfl (by first | rfl | simp [Lay.len, Lay.lens]) _ rfl rfl ?_
  refine AL_ev (Ev_assign) rfl ?_
  refine AL_nil ?_
  refine hK1 _ _ _ ?_
  refine AC_seq fun K2 hK2 => ?_
  refine AC_region ?_
  first | refine AL_ev (Ev_load_ptr rfl rfl rfl rfl rfl rfl ts35 ta35 (by first | rfl | assumption | simp) (by intro h; cases h)) rfl ?_ | refine AL_ev (Ev_load_rp rfl rfl rfl ts35 ta35 (by first | rfl | assumption | simp) (by intro h; cases h)) rfl ?_
  refine AL_fcall0 hT rfl cl80 (c_l03Count t hb 400 (by omega) (by omega)) rfl rfl ?_
  refine AL_ev (Ev_geq rfl rfl) rfl ?_
  refine AL_ev (Ev_move) rfl ?_
  refine AL_bool 6 rfl (fun hg1 => ?_) (fun hg1 => ?_)
  · skip
    refine AL_guard_t rfl rfl rfl ?_
    first | refine AL_ev (Ev_load_ptr rfl rfl rfl rfl rfl rfl ts35 ta35 (by first | rfl | assumption | simp) (by intro h; cases h)) rfl ?_ | refine AL_ev (Ev_load_rp rfl rfl rfl ts35 ta35 (by first | rfl | assumption | simp) (by intro h; cases h)) rfl ?_
    refine AL_guard_t rfl rfl rfl ?_
    refine AL_fcall0 hT rfl cl81 (c_l03Right t hb 1 (by omega) (by omega)) rfl rfl ?_
    refine AL_ev (Ev_pick rfl) rfl ?_
    refine AL_ev (Ev_assign) rfl ?_
    refine AL_nil ?_
    refine hK2 _ _ _ ?_
    refine AC_ret ?_
    refine ret_ok hdm (.tmp rfl rfl .nil) (.cons .d .nil) ?_
    rw [← okS_eq, okS]
    simp_all
    try omega
  · skip
    refine AL_guard_f rfl rfl rfl rfl ?_
    refine AL_guard_f rfl rfl rfl rfl ?_
    refine AL_ev (Ev_pick rfl) rfl ?_
    refine AL_ev (Ev_assign) rfl ?_
    refine AL_nil ?_
    refine hK2 _ _ _ ?_
    refine AC_ret ?_
    refine ret_ok hdm (.tmp rfl rfl .nil) (.cons .d .nil) ?_
    rw [← okS_eq, okS]
    simp_all
    try omega

end Go.Proofs.Ytjhdkjacfclipaa
