/- Contracts of functions. -/
import Derived.Test.YtjhdkjacfclipaaMt
import Derived.Test.YtjhdkjacfclipaaOk
import Derived.Test.YtjhdkjacfclipaaWn
import Derived.Test.YtjhdkjacfclipaaEng27
import Derived.Test.YtjhdkjacfclipaaCd
import Derived.Test.YtjhdkjacfclipaaProg
import Derived.KernelRfl
import Derived.Test.YtjhdkjacfclipaaCA
import Derived.Test.YtjhdkjacfclipaaCB
import Derived.Test.YtjhdkjacfclipaaCS
import Derived.Test.YtjhdkjacfclipaaCV
import Derived.Test.YtjhdkjacfclipaaCX
import Derived.Test.YtjhdkjacfclipaaCY
set_option linter.unusedVariables false
set_option linter.unusedSimpArgs false
namespace Go.Proofs.Ytjhdkjacfclipaa
open Go.Eng

theorem cl15 : Callable Try.prog 15 := Callable_of Try.func15 (by kernel_rfl) (by kernel_rfl)
theorem cl16 : Callable Try.prog 16 := Callable_of Try.func16 (by kernel_rfl) (by kernel_rfl)
theorem cl17 : Callable Try.prog 17 := Callable_of Try.func17 (by kernel_rfl) (by kernel_rfl)
theorem cl18 : Callable Try.prog 18 := Callable_of Try.func18 (by kernel_rfl) (by kernel_rfl)
theorem cl19 : Callable Try.prog 19 := Callable_of Try.func19 (by kernel_rfl) (by kernel_rfl)
theorem cl20 : Callable Try.prog 20 := Callable_of Try.func20 (by kernel_rfl) (by kernel_rfl)
theorem cl53 : Callable Try.prog 53 := Callable_of Try.func53 (by kernel_rfl) (by kernel_rfl)
theorem cl54 : Callable Try.prog 54 := Callable_of Try.func54 (by kernel_rfl) (by kernel_rfl)

set_option maxHeartbeats 1000000 in
set_option maxRecDepth 4000 in
theorem c_big (bs : List Int) : PCall Try.prog 16 [.sl .one (u8s bs)] (· = [.c (.bool (decide ((bs.length : Int) > 1048576)))]) := by
  refine PCall_of (n := 6) Try.func16 rfl rfl (Nat.le_of_ble_eq_true rfl) fun C hdm hT0 => ?_
  have hT := hT0
  refine AC_seq fun K1 hK1 => ?_
  refine AC_region ?_
  refine AL_ev (Ev_assign) rfl ?_
  refine AL_nil ?_
  refine hK1 _ _ _ ?_
  refine AC_seq fun K2 hK2 => ?_
  refine AC_region ?_
  refine AL_ev (Ev_move) rfl ?_
  first | refine AL_lim (x := (Operand.tmp 3)) rfl fun hl1 => ?_ | refine AL_limB (x := (Operand.tmp 3)) rfl rfl (by first | rfl | (simp; done) | (simp; omega)) fun hl1 => ?_ | have hl1 := True.intro
  try simp only [injs_length, ints_length, strs_length, injCs_length, u8s_length, List.length_map] at hl1
  first | refine AL_ev (Ev_len_u8s te30 rfl) rfl ?_ | refine AL_ev (Ev_len_sl te30 rfl) rfl ?_ | refine AL_ev (Ev_len_ref te30 rfl) rfl ?_ | refine AL_ev (Ev_len_nil te30 rfl) rfl ?_ | refine AL_ev (Ev_len_c te30 rfl) rfl ?_
  refine AL_ev (Ev_gtr rfl rfl) rfl ?_
  refine AL_ev (Ev_assign) rfl ?_
  refine AL_nil ?_
  refine hK2 _ _ _ ?_
  refine AC_ret ?_
  exact ret_ok hdm (.tmp rfl rfl .nil) (.cons .d .nil) rfl

set_option maxHeartbeats 1000000 in
set_option maxRecDepth 4000 in
theorem c_specCompare (t u : T) (ht : okT t = true) (hu : okT u = true) (h1 : bulk t ≤ 1099511627776) (h2 : bulk u ≤ 1099511627776) : PCall Try.prog 18 [inj t, inj u] (· = [.c (.int .i64 (cmpT t u))]) := by
  refine PCall_of (n := 16) Try.func18 rfl rfl (Nat.le_of_ble_eq_true rfl) fun C hdm hT0 => ?_
  have hT := hT0
  refine AC_seq fun K1 hK1 => ?_
  refine AC_region ?_
  refine AL_box (Lay.st [.one, .one, .one, .one]) (nf rfl) rfl (by first | rfl | simp [Lay.len, Lay.lens]) _ rfl rfl ?_
  refine AL_box (Lay.st [.one, .one, .one, .one]) (nf rfl) rfl (by first | rfl | simp [Lay.len, Lay.lens]) _ rfl rfl ?_
  refine AL_ev (Ev_assign) rfl ?_
  refine AL_nil ?_
  refine hK1 _ _ _ ?_
  refine AC_seq fun K2 hK2 => ?_
  refine AC_seq fun K3 hK3 => ?_
  refine AC_region ?_
  first | refine AL_ev (Ev_load_ptr rfl rfl rfl rfl rfl rfl ts35 ta35 (by first | rfl | assumption | simp) (by intro h; cases h)) rfl ?_ | refine AL_ev (Ev_load_rp rfl rfl rfl ts35 ta35 (by first | rfl | assumption | simp) (by intro h; cases h)) rfl ?_
  refine AL_fcall0 hT rfl cl51 (c_specTermOk t h1) rfl rfl ?_
  refine AL_ev (Ev_not rfl) rfl ?_
  refine AL_ev (Ev_move) rfl ?_
  refine AL_bool 8 rfl (fun hg1 => ?_) (fun hg1 => ?_)
  · skip
    rw [ht] at hg1; cases hg1
  · skip
    refine AL_guard_t rfl rfl rfl ?_
    first | refine AL_ev (Ev_load_ptr rfl rfl rfl rfl rfl rfl ts35 ta35 (by first | rfl | assumption | simp) (by intro h; cases h)) rfl ?_ | refine AL_ev (Ev_load_rp rfl rfl rfl ts35 ta35 (by first | rfl | assumption | simp) (by intro h; cases h)) rfl ?_
    refine AL_guard_t rfl rfl rfl ?_
    refine AL_fcall0 hT rfl cl51 (c_specTermOk u h2) rfl rfl ?_
    refine AL_guard_t rfl rfl rfl ?_
    refine AL_ev (Ev_not rfl) rfl ?_
    refine AL_ev (Ev_pick rfl) rfl ?_
    refine AL_nil ?_
    refine hK3 _ _ _ ?_
    refine AC_cond rfl (fun hc2 => ?_) (fun hc2 => ?_)
    · skip
      rw [hu] at hc2; cases hc2
    · skip
      refine AC_skip ?_
      refine hK2 _ _ _ ?_
      refine AC_seq fun K4 hK4 => ?_
      refine AC_region ?_
      first | refine AL_ev (Ev_load_ptr rfl rfl rfl rfl rfl rfl ts35 ta35 (by first | rfl | assumption | simp) (by intro h; cases h)) rfl ?_ | refine AL_ev (Ev_load_rp rfl rfl rfl ts35 ta35 (by first | rfl | assumption | simp) (by intro h; cases h)) rfl ?_
      first | refine AL_ev (Ev_load_ptr rfl rfl rfl rfl rfl rfl ts35 ta35 (by first | rfl | assumption | simp) (by intro h; cases h)) rfl ?_ | refine AL_ev (Ev_load_rp rfl rfl rfl ts35 ta35 (by first | rfl | assumption | simp) (by intro h; cases h)) rfl ?_
      refine AL_fcall0 hT rfl cl52 (c_l03Compare t u 1 1 (okT_right ht) (okT_right hu)) rfl rfl ?_
      refine AL_ev (Ev_assign) rfl ?_
      refine AL_nil ?_
      refine hK4 _ _ _ ?_
      refine AC_ret ?_
      exact ret_ok hdm (.tmp rfl rfl .nil) (.cons .d .nil) rfl

set_option maxHeartbeats 1000000 in
set_option maxRecDepth 4000 in
theorem c_indexT (g : T → Bool) (kk : FuncId) (caps : List D) (hcl : Callable Try.prog kk) (hna : caps.all (fun d => !d.isAgg) = true) (xs : List T) (hto : ∀ c ∈ xs, PCall Try.prog kk ([inj c] ++ caps) (· = [.c (.bool (g c))])) : PCall Try.prog 53 [.sl LT (injs xs), .fn kk caps] (· = [.c (.int .i64 (idxB g xs 0))]) := by
  refine PCall_of (n := 19) Try.func53 rfl rfl (Nat.le_of_ble_eq_true rfl) fun C hdm hT0 => ?_
  have hT := hT0
  refine AC_seq fun K1 hK1 => ?_
  refine AC_region ?_
  refine AL_ev (Ev_assign) rfl ?_
  refine AL_nil ?_
  refine hK1 _ _ _ ?_
  refine AC_seq fun K2 hK2 => ?_
  refine AC_seq fun K3 hK3 => ?_
  refine AC_region ?_
  refine AL_ev (Ev_move) rfl ?_
  first | refine AL_lim (x := (Operand.tmp 6)) rfl fun hl1 => ?_ | refine AL_limB (x := (Operand.tmp 6)) rfl rfl (by first | rfl | (simp; done) | (simp; omega)) fun hl1 => ?_ | have hl1 := True.intro
  try simp only [injs_length, ints_length, strs_length, injCs_length, u8s_length, List.length_map] at hl1
  first | refine AL_ev (Ev_len_injs te24 rfl) rfl ?_ | refine AL_ev (Ev_len_sl te24 rfl) rfl ?_ | refine AL_ev (Ev_len_ref te24 rfl) rfl ?_ | refine AL_ev (Ev_len_nil te24 rfl) rfl ?_ | refine AL_ev (Ev_len_c te24 rfl) rfl ?_
  refine AL_ev (Ev_move) rfl ?_
  refine AL_nil ?_
  refine hK3 _ _ _ ?_
  refine AC_block ?_
  refine AC_loopS [0, 1, 7] (Nat) (fun j => [(8, i64 j)]) (fun j => []) (fun st => xs.length - st) (fun j => j ≤ xs.length ∧ idxB g xs 0 = idxB g (xs.drop j) j) (0) ?_ ?_ ?_
  · skip
    exact enterS [] rfl rfl BxTo_nil (SlTo_cons (by first | exact .rd .d | exact Vw_int (by first | rfl | assumption | omega | (simp; done) | (simp; omega)) | exact Vw_c (by first | rfl | (simp; done) | simp_all) | exact .any) (SlTo_cons (by first | exact .rd .d | exact .any) (SlTo_cons (by first | exact .rd .d | exact .any) (SlTo_cons (by first | exact .rd .d | exact .any) SlTo_nil))))
  · skip
    exact ⟨Nat.zero_le _, by simp⟩
  rintro j ⟨hj, hI⟩
  show AC _ _ _ _ _ (FS [0, 1, 7] _ [(8, i64 j)]) []
  refine AC_seq fun K4 hK4 => ?_
  refine AC_region ?_
  refine AL_ev (Ev_lss rfl rfl) rfl ?_
  refine AL_nil ?_
  refine hK4 _ _ _ ?_
  refine AC_seq fun K5 hK5 => ?_
  refine AC_cond rfl (fun hc1 => ?_) (fun hc1 => ?_)
  · skip
    have hlt : j < xs.length := by simpa using hc1
    obtain ⟨u, hu⟩ : ∃ x, xs[j]? = some x := ⟨_, List.getElem?_eq_getElem hlt⟩
    have hu2 := injs_get hu
    have hdr := drop_get hu
    refine AC_skip ?_
    refine hK5 _ _ _ ?_
    refine AC_seq fun K6 hK6 => ?_
    refine AC_block ?_
    refine AC_seq fun K7 hK7 => ?_
    refine AC_region ?_
    refine AL_ev (Ev_move) rfl ?_
    refine AL_ev (Ev_assign) rfl ?_
    refine AL_nil ?_
    refine hK7 _ _ _ ?_
    refine AC_seq fun K8 hK8 => ?_
    refine AC_region ?_
    refine AL_ev (Ev_move) rfl ?_
    refine AL_ev (Ev_move) rfl ?_
    refine AL_ev (Ev_move) rfl ?_
    first | refine AL_ev (Ev_ix_sl rfl rfl te24 ts35 (by omega) (by assumption)) rfl ?_ | refine AL_ev (Ev_ix_ref rfl rfl te24 ts35 (by omega) (by first | omega | (simp; omega))) rfl ?_
    first | refine AL_ev (Ev_load_ptr rfl rfl rfl rfl rfl rfl ts35 ta35 (by first | rfl | assumption | simp) (by intro h; cases h)) rfl ?_ | refine AL_ev (Ev_load_rp rfl rfl rfl ts35 ta35 (by first | rfl | assumption | simp) (by intro h; cases h)) rfl ?_
    refine AL_fcall hT rfl hna hcl (hto u (List.mem_of_getElem? hu)) rfl rfl ?_
    refine AL_nil ?_
    refine hK8 _ _ _ ?_
    refine AC_cond rfl (fun hc2 => ?_) (fun hc2 => ?_)
    · skip
      refine AC_seq fun K9 hK9 => ?_
      refine AC_region ?_
      refine AL_ev (Ev_move) rfl ?_
      refine AL_ev (Ev_assign) rfl ?_
      refine AL_nil ?_
      refine hK9 _ _ _ ?_
      refine AC_ret ?_
      refine ret_ok hdm (.tmp rfl rfl .nil) (.cons .d .nil) ?_
      try rw [hI]
      try rw [hdr]
      try simp_all [List.length_pos_iff, idxB]
      try omega
    · skip
      refine AC_skip ?_
      refine hK6 _ _ _ ?_
      refine AC_region ?_
      first | refine AL_ev (Ev_add rfl rfl _ (wrap_id (by first | omega | (simp; omega)) (by first | omega | (simp; omega)))) rfl ?_ | refine AL_ev (Ev_add rfl rfl _ rfl) rfl ?_
      refine AL_ev (Ev_move) rfl ?_
      refine AL_nil ?_
      refine closeS (j + 1) [] rfl rfl (by show xs.length - (j + 1) < xs.length - j; omega) ⟨hlt, ?_⟩ BxTo_nil (SlTo_cons (by first | exact .rd .d | exact Vw_int (by first | rfl | assumption | omega | (simp; done) | (simp; omega)) | exact Vw_c (by first | rfl | (simp; done) | simp_all) | exact .any) (SlTo_cons (by first | exact .rd .d | exact .any) (SlTo_cons (by first | exact .rd .d | exact .any) (SlTo_cons (by first | exact .rd .d | exact .any) SlTo_nil))))
      rw [hI]
      try rw [hdr]
      try simp_all [idxB]
      try omega
  · skip
    have hj2 : j = xs.length := by
      have : ¬ j < xs.length := by simpa using hc1
      omega
    subst hj2
    rw [List.drop_length] at hI
    refine AC_exit ?_
    refine hK2 _ _ _ ?_
    refine AC_seq fun K10 hK10 => ?_
    refine AC_region ?_
    refine AL_ev (Ev_assign) rfl ?_
    refine AL_nil ?_
    refine hK10 _ _ _ ?_
    refine AC_ret ?_
    refine ret_ok hdm (.tmp rfl rfl .nil) (.cons .d .nil) ?_
    try rw [hI]
    try rw [hdr]
    try simp_all [List.length_pos_iff, idxB]
    try omega

set_option maxHeartbeats 1000000 in
set_option maxRecDepth 4000 in
theorem c_termIn1 (t u : T) : PCall Try.prog 54 [inj u, .rp LT (inj t) []] (· = [.c (.bool (sameB u t))]) := by
  refine PCall_of (n := 7) Try.func54 rfl rfl (Nat.le_of_ble_eq_true rfl) fun C hdm hT0 => ?_
  have hT := hT0
  refine AC_seq fun K1 hK1 => ?_
  refine AC_region ?_
  refine AL_box (Lay.st [.one, .one, .one, .one]) (nf rfl) rfl (by first | rfl | simp [Lay.len, Lay.lens]) _ rfl rfl ?_
  refine AL_ev (Ev_assign) rfl ?_
  refine AL_nil ?_
  refine hK1 _ _ _ ?_
  refine AC_seq fun K2 hK2 => ?_
  refine AC_region ?_
  first | refine AL_ev (Ev_load_ptr rfl rfl rfl rfl rfl rfl ts35 ta35 (by first | rfl | assumption | simp) (by intro h; cases h)) rfl ?_ | refine AL_ev (Ev_load_rp rfl rfl rfl ts35 ta35 (by first | rfl | assumption | simp) (by intro h; cases h)) rfl ?_
  first | refine AL_ev (Ev_load_ptr rfl rfl rfl rfl rfl rfl ts35 ta35 (by first | rfl | assumption | simp) (by intro h; cases h)) rfl ?_ | refine AL_ev (Ev_load_rp rfl rfl rfl ts35 ta35 (by first | rfl | assumption | simp) (by intro h; cases h)) rfl ?_
  refine AL_fcall0 hT rfl cl48 (c_sameTerm u t rfl) rfl rfl ?_
  refine AL_ev (Ev_assign) rfl ?_
  refine AL_nil ?_
  refine hK2 _ _ _ ?_
  refine AC_ret ?_
  exact ret_ok hdm (.tmp rfl rfl .nil) (.cons .d .nil) rfl

set_option maxHeartbeats 1000000 in
set_option maxRecDepth 4000 in
theorem c_termIn (ks : List T) (t : T) : PCall Try.prog 19 [.sl LT (injs ks), inj t] (· = [.c (.int .i64 (idxB (fun x => sameB x t) ks 0))]) := by
  refine PCall_of (n := 8) Try.func19 rfl rfl (Nat.le_of_ble_eq_true rfl) fun C hdm hT0 => ?_
  have hT := hT0
  refine AC_seq fun K1 hK1 => ?_
  refine AC_region ?_
  refine AL_box (Lay.st [.one, .one, .one, .one]) (nf rfl) rfl (by first | rfl | simp [Lay.len, Lay.lens]) _ rfl rfl ?_
  refine AL_ev (Ev_assign) rfl ?_
  refine AL_nil ?_
  refine hK1 _ _ _ ?_
  refine AC_seq fun K2 hK2 => ?_
  refine AC_wk (Wk_to [] [(0, .d (.sl LT (injs ks))), (3, .d (.rp LT (inj t) []))] [] rfl rfl BxTo_nil (SlTo_cons (by first | exact .rd (.ptr (srcFree rfl) rfl rfl rfl .d) | exact .rd .d) (SlTo_cons (by first | exact .rd (.ptr (srcFree rfl) rfl rfl rfl .d) | exact .rd .d) SlTo_nil)) ?_)
  refine AC_region ?_
  refine AL_ev (Ev_move) rfl ?_
  refine AL_ev (Ev_func (ds := [.rp LT (inj t) []]) rfl rfl) rfl ?_
  refine AL_fcall0 hT rfl cl53 (c_indexT (fun x => sameB x t) 54 [.rp LT (inj t) []] cl54 rfl ks (fun u _ => c_termIn1 t u)) rfl rfl ?_
  refine AL_ev (Ev_assign) rfl ?_
  refine AL_nil ?_
  refine hK2 _ _ _ ?_
  refine AC_ret ?_
  exact ret_ok hdm (.tmp rfl rfl .nil) (.cons .d .nil) rfl

set_option maxHeartbeats 1000000 in
set_option maxRecDepth 4000 in
theorem c_sameTerms (ks ks2 : List T) : PCall Try.prog 20 [.sl LT (injs ks), .sl LT (injs ks2)] (· = [.c (.bool (sameBL ks ks2))]) := by
  refine PCall_of (n := 27) Try.func20 rfl rfl (Nat.le_of_ble_eq_true rfl) fun C hdm hT0 => ?_
  have hT := hT0
  refine AC_seq fun K1 hK1 => ?_
  refine AC_region ?_
  refine AL_ev (Ev_assign) rfl ?_
  refine AL_nil ?_
  refine hK1 _ _ _ ?_
  refine AC_seq fun K2 hK2 => ?_
  refine AC_seq fun K3 hK3 => ?_
  refine AC_region ?_
  refine AL_ev (Ev_move) rfl ?_
  first | refine AL_lim (x := (Operand.tmp 6)) rfl fun hl1 => ?_ | refine AL_limB (x := (Operand.tmp 6)) rfl rfl (by first | rfl | (simp; done) | (simp; omega)) fun hl1 => ?_ | have hl1 := True.intro
  try simp only [injs_length, ints_length, strs_length, injCs_length, u8s_length, List.length_map] at hl1
  first | refine AL_ev (Ev_len_injs te24 rfl) rfl ?_ | refine AL_ev (Ev_len_sl te24 rfl) rfl ?_ | refine AL_ev (Ev_len_ref te24 rfl) rfl ?_ | refine AL_ev (Ev_len_nil te24 rfl) rfl ?_ | refine AL_ev (Ev_len_c te24 rfl) rfl ?_
  refine AL_ev (Ev_move) rfl ?_
  first | refine AL_lim (x := (Operand.tmp 8)) rfl fun hl2 => ?_ | refine AL_limB (x := (Operand.tmp 8)) rfl rfl (by first | rfl | (simp; done) | (simp; omega)) fun hl2 => ?_ | have hl2 := True.intro
  try simp only [injs_length, ints_length, strs_length, injCs_length, u8s_length, List.length_map] at hl2
  first | refine AL_ev (Ev_len_injs te24 rfl) rfl ?_ | refine AL_ev (Ev_len_sl te24 rfl) rfl ?_ | refine AL_ev (Ev_len_ref te24 rfl) rfl ?_ | refine AL_ev (Ev_len_nil te24 rfl) rfl ?_ | refine AL_ev (Ev_len_c te24 rfl) rfl ?_
  refine AL_ev (Ev_neq rfl rfl) rfl ?_
  refine AL_nil ?_
  refine hK3 _ _ _ ?_
  refine AC_cond rfl (fun hc1 => ?_) (fun hc1 => ?_)
  · skip
    have hne : ¬ sameBL ks ks2 = true := fun h => by have := sameBL_len h; simp [this] at hc1
    refine AC_seq fun K4 hK4 => ?_
    refine AC_region ?_
    refine AL_ev (Ev_assign) rfl ?_
    refine AL_nil ?_
    refine hK4 _ _ _ ?_
    refine AC_ret ?_
    refine ret_ok hdm (.tmp rfl rfl .nil) (.cons .d .nil) ?_
    rw [Bool.eq_false_iff.2 hne]
  · skip
    have h9 : (ks.length : Int) = ks2.length := by simpa using hc1
    have hln : ks.length = ks2.length := by omega
    refine AC_skip ?_
    refine hK2 _ _ _ ?_
    refine AC_seq fun K5 hK5 => ?_
    refine AC_seq fun K6 hK6 => ?_
    refine AC_region ?_
    refine AL_ev (Ev_assign) rfl ?_
    refine AL_nil ?_
    refine hK6 _ _ _ ?_
    refine AC_block ?_
    refine AC_loopS [0, 1] (Nat) (fun j => [(5, i64 j)]) (fun j => []) (fun st => ks.length - st) (fun j => j ≤ ks.length ∧ (sameBL ks ks2 = sameBL (ks.drop j) (ks2.drop j))) (0) ?_ ?_ ?_
    · skip
      exact enterS [] rfl rfl BxTo_nil (SlTo_cons (by first | exact .rd .d | exact Vw_int (by first | rfl | assumption | omega | (simp; done) | (simp; omega)) | exact Vw_c (by first | rfl | (simp; done) | simp_all) | exact .any) (SlTo_cons (by first | exact .rd .d | exact .any) (SlTo_cons (by first | exact .rd .d | exact .any) SlTo_nil)))
    · skip
      exact ⟨Nat.zero_le _, by simp⟩
    rintro j ⟨hj, hI⟩
    show AC _ _ _ _ _ (FS [0, 1] _ [(5, i64 j)]) []
    refine AC_seq fun K7 hK7 => ?_
    refine AC_seq fun K8 hK8 => ?_
    refine AC_region ?_
    refine AL_ev (Ev_move) rfl ?_
    refine AL_ev (Ev_move) rfl ?_
    first | refine AL_lim (x := (Operand.tmp 12)) rfl fun hl3 => ?_ | refine AL_limB (x := (Operand.tmp 12)) rfl rfl (by first | rfl | (simp; done) | (simp; omega)) fun hl3 => ?_ | have hl3 := True.intro
    try simp only [injs_length, ints_length, strs_length, injCs_length, u8s_length, List.length_map] at hl3
    first | refine AL_ev (Ev_len_injs te24 rfl) rfl ?_ | refine AL_ev (Ev_len_sl te24 rfl) rfl ?_ | refine AL_ev (Ev_len_ref te24 rfl) rfl ?_ | refine AL_ev (Ev_len_nil te24 rfl) rfl ?_ | refine AL_ev (Ev_len_c te24 rfl) rfl ?_
    refine AL_ev (Ev_lss rfl rfl) rfl ?_
    refine AL_nil ?_
    refine hK8 _ _ _ ?_
    refine AC_cond rfl (fun hc2 => ?_) (fun hc2 => ?_)
    · skip
      have hlt : j < ks.length := by simpa using hc2
      obtain ⟨u, hu⟩ : ∃ x, ks[j]? = some x := ⟨_, List.getElem?_eq_getElem hlt⟩
      have hu2 := injs_get hu
      have hdr := drop_get hu
      obtain ⟨v, hv⟩ : ∃ x, ks2[j]? = some x := ⟨_, List.getElem?_eq_getElem (by omega)⟩
      have hv2 := injs_get hv
      have hdr2 := drop_get hv
      rw [hdr, hdr2, sameBL] at hI
      refine AC_skip ?_
      refine hK7 _ _ _ ?_
      refine AC_seq fun K9 hK9 => ?_
      refine AC_block ?_
      refine AC_seq fun K10 hK10 => ?_
      refine AC_draw hT follows [0, 1, 2, 3, 4, 5, 6, 7, 8, 9] (by kernel_rfl) ?_
      refine DT_ev rfl (EA_move) rfl ?_
      refine DT_ev rfl (EA_move) rfl ?_
      first | refine DT_ev rfl (EA_ix_sl rfl rfl te24 ts35 (by omega) (by assumption)) rfl ?_ | refine DT_ev rfl (EA_ix_ref rfl rfl te24 ts35 (by omega) (by first | omega | (simp; omega))) rfl ?_
      first | refine DT_ev rfl (EA_load_ptr rfl rfl rfl rfl rfl rfl ts35 ta35 (by first | rfl | assumption | simp) (by intro h; cases h)) rfl ?_ | refine DT_ev rfl (EA_load_rp rfl rfl rfl ts35 ta35 (by first | rfl | assumption | simp) (by intro h; cases h)) rfl ?_
      refine DT_ev rfl (EA_move) rfl ?_
      refine DT_ev rfl (EA_move) rfl ?_
      first | refine DT_ev rfl (EA_ix_sl rfl rfl te24 ts35 (by omega) (by assumption)) rfl ?_ | refine DT_ev rfl (EA_ix_ref rfl rfl te24 ts35 (by omega) (by first | omega | (simp; omega))) rfl ?_
      first | refine DT_ev rfl (EA_load_ptr rfl rfl rfl rfl rfl rfl ts35 ta35 (by first | rfl | assumption | simp) (by intro h; cases h)) rfl ?_ | refine DT_ev rfl (EA_load_rp rfl rfl rfl ts35 ta35 (by first | rfl | assumption | simp) (by intro h; cases h)) rfl ?_
      refine DT_fcall0 rfl rfl cl32 ((c_specSameTerm u v rfl)) rfl rfl ?_
      refine DT_ev rfl (EA_not rfl) rfl ?_
      refine DTi.nil ?_
      refine hK10 _ _ _ ?_
      refine AC_cond rfl (fun hc3 => ?_) (fun hc3 => ?_)
      · skip
        refine AC_seq fun K11 hK11 => ?_
        refine AC_region ?_
        refine AL_ev (Ev_assign) rfl ?_
        refine AL_nil ?_
        refine hK11 _ _ _ ?_
        refine AC_ret ?_
        refine ret_ok hdm (.tmp rfl rfl .nil) (.cons .d .nil) ?_
        rw [hI, show sameB u v = false by simpa using hc3, Bool.false_and]
      · skip
        refine AC_skip ?_
        refine hK9 _ _ _ ?_
        refine AC_region ?_
        refine AL_ev (Ev_move) rfl ?_
        first | refine AL_ev (Ev_add rfl rfl _ (wrap_id (by first | omega | (simp; omega)) (by first | omega | (simp; omega)))) rfl ?_ | refine AL_ev (Ev_add rfl rfl _ rfl) rfl ?_
        refine AL_ev (Ev_assign) rfl ?_
        refine AL_nil ?_
        refine closeS (j + 1) [] rfl rfl (by show ks.length - (j + 1) < ks.length - j; omega) ⟨hlt, ?_⟩ BxTo_nil (SlTo_cons (by first | exact .rd .d | exact Vw_int (by first | rfl | assumption | omega | (simp; done) | (simp; omega)) | exact Vw_c (by first | rfl | (simp; done) | simp_all) | exact .any) (SlTo_cons (by first | exact .rd .d | exact .any) (SlTo_cons (by first | exact .rd .d | exact .any) SlTo_nil)))
        rw [hI, show sameB u v = true by simpa using hc3, Bool.true_and]
    · skip
      have hj2 : j = ks.length := by
        have : ¬ j < ks.length := by simpa using hc2
        omega
      subst hj2
      rw [List.drop_length] at hI
      refine AC_exit ?_
      refine hK5 _ _ _ ?_
      refine AC_seq fun K12 hK12 => ?_
      refine AC_region ?_
      refine AL_ev (Ev_assign) rfl ?_
      refine AL_nil ?_
      refine hK12 _ _ _ ?_
      refine AC_ret ?_
      refine ret_ok hdm (.tmp rfl rfl .nil) (.cons .d .nil) ?_
      rw [hI, List.drop_eq_nil_of_le (by omega)]; rfl

set_option maxHeartbeats 4000000 in
set_option maxRecDepth 4000 in
theorem c_lawSorted (bs : List Int) (hbs : (bs.length : Int) ≤ 1048576) : PCall Try.prog 5 [.sl .one (u8s bs)] (· = [.c (.bool true)]) := by
  refine PCall_of (n := 97) Try.func5 rfl rfl (Nat.le_of_ble_eq_true rfl) fun C hdm hT0 => ?_
  have hT := hT0
  refine AC_seq fun K1 hK1 => ?_
  refine AC_region ?_
  refine AL_ev (Ev_assign) rfl ?_
  refine AL_nil ?_
  refine hK1 _ _ _ ?_
  refine AC_seq fun K2 hK2 => ?_
  refine AC_seq fun K3 hK3 => ?_
  refine AC_region ?_
  refine AL_ev (Ev_move) rfl ?_
  refine AL_fcall0 hT rfl cl16 (c_big bs) rfl rfl ?_
  refine AL_nil ?_
  refine hK3 _ _ _ ?_
  refine AC_cond rfl (fun hc1 => ?_) (fun hc1 => ?_)
  · skip
    have : (bs.length : Int) > 1048576 := of_decide_eq_true hc1
    omega
  · skip
    refine AC_skip ?_
    refine hK2 _ _ _ ?_
    refine AC_seq fun K4 hK4 => ?_
    refine AC_region ?_
    refine AL_ev (Ev_move) rfl ?_
    refine AL_pcall0 hT rfl cl17 (c_drawTermList bs (by simp only [lim]; omega)) rfl rfl fun rs0 hR0 => ?_
    obtain ⟨ts, rfl, hln, hts⟩ := hR0
    obtain ⟨A, hA⟩ : ∃ A, A = sortF ts [] := ⟨_, rfl⟩
    obtain ⟨B, hB⟩ : ∃ B, B = ddT none A := ⟨_, rfl⟩
    obtain ⟨f1, f2, f3, f4, f5, f6, f7, f8, f9, f10, f11⟩ := sorted_law (fun t ht => (hts t ht).2) hA hB
    have hSA : PCall Try.prog 10 [.sl LT (injs ts)] (· = [.sl LT (injs A)]) := by rw [hA]; exact (c_sortedAll ts (fun t ht => by have := (hts t ht).1; omega)).pcall rfl
    have hSB : PCall Try.prog 15 [.sl LT (injs ts)] (· = [.sl LT (injs B)]) := by rw [hB, hA]; exact (c_sortedTerms ts (fun t ht => by have := (hts t ht).1; omega) (by omega)).pcall rfl
    have hSA2 : PCall Try.prog 10 [.sl LT (injs A)] (· = [.sl LT (injs A)]) := by have := (c_sortedAll A (fun t ht => by have := (hts t (f10 t ht)).1; omega)).pcall rfl; rwa [f8] at this
    have hSB2 : PCall Try.prog 15 [.sl LT (injs B)] (· = [.sl LT (injs B)]) := by have := (c_sortedTerms B (fun t ht => by have := (hts t (f11 t ht)).1; omega) (by omega)).pcall rfl; rwa [f9] at this
    refine AL_ev (Ev_assign) rfl ?_
    refine AL_nil ?_
    refine hK4 _ _ _ ?_
    refine AC_seq fun K5 hK5 => ?_
    refine AC_region ?_
    refine AL_ev (Ev_move) rfl ?_
    refine AL_fcall0 hT rfl cl10 (hSA) rfl rfl ?_
    refine AL_ev (Ev_assign) rfl ?_
    refine AL_nil ?_
    refine hK5 _ _ _ ?_
    refine AC_seq fun K6 hK6 => ?_
    refine AC_region ?_
    refine AL_ev (Ev_move) rfl ?_
    refine AL_fcall0 hT rfl cl15 (hSB) rfl rfl ?_
    refine AL_ev (Ev_assign) rfl ?_
    refine AL_nil ?_
    refine hK6 _ _ _ ?_
    refine AC_seq fun K7 hK7 => ?_
    refine AC_seq fun K8 hK8 => ?_
    refine AC_region ?_
    refine AL_ev (Ev_assign) rfl ?_
    refine AL_nil ?_
    refine hK8 _ _ _ ?_
    refine AC_block ?_
    refine AC_loopS [3, 4, 5] (Nat) (fun i => [(6, i64 ((i : Nat) : Int))]) (fun i => []) (fun st => A.length + 1 - st) (fun i => (1 ≤ i)) (1) ?_ ?_ ?_
    · skip
      exact enterS [] rfl rfl BxTo_nil (SlTo_cons (by first | exact .rd .d | exact Vw_int (by first | rfl | assumption | omega | (simp; done) | (simp; omega)) | exact Vw_c (by first | rfl | (simp; done) | simp_all) | exact .any) (SlTo_cons (by first | exact .rd .d | exact .any) (SlTo_cons (by first | exact .rd .d | exact .any) (SlTo_cons (by first | exact .rd .d | exact .any) SlTo_nil))))
    · skip
      exact Nat.le_refl _
    rintro i hi1
    show AC _ _ _ _ _ (FS [3, 4, 5] _ [(6, i64 ((i : Nat) : Int))]) []
    refine AC_seq fun K9 hK9 => ?_
    refine AC_seq fun K10 hK10 => ?_
    refine AC_region ?_
    refine AL_ev (Ev_move) rfl ?_
    refine AL_ev (Ev_move) rfl ?_
    first | refine AL_lim (x := (Operand.tmp 18)) rfl fun hl1 => ?_ | refine AL_limB (x := (Operand.tmp 18)) rfl rfl (by first | rfl | (simp; done) | (simp; omega)) fun hl1 => ?_ | have hl1 := True.intro
    try simp only [injs_length, ints_length, strs_length, injCs_length, u8s_length, List.length_map] at hl1
    first | refine AL_ev (Ev_len_injs te24 rfl) rfl ?_ | refine AL_ev (Ev_len_sl te24 rfl) rfl ?_ | refine AL_ev (Ev_len_ref te24 rfl) rfl ?_ | refine AL_ev (Ev_len_nil te24 rfl) rfl ?_ | refine AL_ev (Ev_len_c te24 rfl) rfl ?_
    refine AL_ev (Ev_lss rfl rfl) rfl ?_
    refine AL_nil ?_
    refine hK10 _ _ _ ?_
    refine AC_cond rfl (fun hc2 => ?_) (fun hc2 => ?_)
    · skip
      have hlt : i < A.length := by have := of_decide_eq_true hc2; omega
      obtain ⟨b0, hb0⟩ : ∃ b, A[i]? = some b := ⟨_, List.getElem?_eq_getElem hlt⟩
      obtain ⟨a0, ha0⟩ : ∃ a, A[i - 1]? = some a := ⟨_, List.getElem?_eq_getElem (by omega)⟩
      have hb2 := injs_get hb0
      have ha2 : (injs A)[(((i : Nat) : Int) - 1).toNat]? = some (inj a0) := by rw [show (((i : Nat) : Int) - 1).toNat = i - 1 by omega]; exact injs_get ha0
      have hma := List.mem_of_getElem? ha0
      have hmb := List.mem_of_getElem? hb0
      refine AC_skip ?_
      refine hK9 _ _ _ ?_
      refine AC_seq fun K11 hK11 => ?_
      refine AC_block ?_
      refine AC_seq fun K12 hK12 => ?_
      refine AC_draw hT follows [0, 1, 2, 3, 4, 5, 6, 7, 8, 9, 10] (by kernel_rfl) ?_
      refine DT_ev rfl (EA_move) rfl ?_
      refine DT_ev rfl (EA_move) rfl ?_
      first | refine DT_ev rfl (EA_sub rfl rfl _ (wrap_id (by first | omega | (simp; omega)) (by first | omega | (simp; omega)))) rfl ?_ | refine DT_ev rfl (EA_sub rfl rfl _ rfl) rfl ?_
      first | refine DT_ev rfl (EA_ix_sl rfl rfl te24 ts35 (by omega) (by assumption)) rfl ?_ | refine DT_ev rfl (EA_ix_ref rfl rfl te24 ts35 (by omega) (by first | omega | (simp; omega))) rfl ?_
      first | refine DT_ev rfl (EA_load_ptr rfl rfl rfl rfl rfl rfl ts35 ta35 (by first | rfl | assumption | simp) (by intro h; cases h)) rfl ?_ | refine DT_ev rfl (EA_load_rp rfl rfl rfl ts35 ta35 (by first | rfl | assumption | simp) (by intro h; cases h)) rfl ?_
      refine DT_ev rfl (EA_move) rfl ?_
      refine DT_ev rfl (EA_move) rfl ?_
      first | refine DT_ev rfl (EA_ix_sl rfl rfl te24 ts35 (by omega) (by assumption)) rfl ?_ | refine DT_ev rfl (EA_ix_ref rfl rfl te24 ts35 (by omega) (by first | omega | (simp; omega))) rfl ?_
      first | refine DT_ev rfl (EA_load_ptr rfl rfl rfl rfl rfl rfl ts35 ta35 (by first | rfl | assumption | simp) (by intro h; cases h)) rfl ?_ | refine DT_ev rfl (EA_load_rp rfl rfl rfl ts35 ta35 (by first | rfl | assumption | simp) (by intro h; cases h)) rfl ?_
      refine DT_fcall0 rfl rfl cl18 (c_specCompare a0 b0 (f6 a0 hma) (f6 b0 hmb) (by have := (hts a0 (f10 a0 hma)).1; omega) (by have := (hts b0 (f10 b0 hmb)).1; omega)) rfl rfl ?_
      refine DT_ev rfl (EA_gtr rfl rfl) rfl ?_
      refine DTi.nil ?_
      refine hK12 _ _ _ ?_
      refine AC_cond rfl (fun hc3 => ?_) (fun hc3 => ?_)
      · skip
        have h8 : cmpT a0 b0 > 0 := of_decide_eq_true hc3
        have h9 : cmpT a0 b0 ≤ 0 := pw_get f1 hi1 ha0 hb0
        omega
      · skip
        refine AC_skip ?_
        refine hK11 _ _ _ ?_
        refine AC_region ?_
        refine AL_ev (Ev_move) rfl ?_
        first | refine AL_ev (Ev_add rfl rfl _ (wrap_id (by first | omega | (simp; omega)) (by first | omega | (simp; omega)))) rfl ?_ | refine AL_ev (Ev_add rfl rfl _ rfl) rfl ?_
        refine AL_ev (Ev_assign) rfl ?_
        refine AL_nil ?_
        refine closeS (i + 1) [] rfl rfl (by show A.length + 1 - (i + 1) < A.length + 1 - i; omega) ?_ BxTo_nil (SlTo_cons (by first | exact .rd .d | exact Vw_int (by first | rfl | assumption | omega | (simp; done) | (simp; omega)) | exact Vw_c (by first | rfl | (simp; done) | simp_all) | exact .any) (SlTo_cons (by first | exact .rd .d | exact .any) (SlTo_cons (by first | exact .rd .d | exact .any) (SlTo_cons (by first | exact .rd .d | exact .any) SlTo_nil))))
        show 1 ≤ i + 1; omega
    · skip
      refine AC_exit ?_
      refine hK7 _ _ _ ?_
      refine AC_seq fun K13 hK13 => ?_
      refine AC_seq fun K14 hK14 => ?_
      refine AC_region ?_
      refine AL_ev (Ev_assign) rfl ?_
      refine AL_nil ?_
      refine hK14 _ _ _ ?_
      refine AC_block ?_
      refine AC_loopS [3, 4, 5] (Nat) (fun i => [(7, i64 ((i : Nat) : Int))]) (fun i => []) (fun st => B.length + 1 - st) (fun i => (1 ≤ i)) (1) ?_ ?_ ?_
      · skip
        exact enterS [] rfl rfl BxTo_nil (SlTo_cons (by first | exact .rd .d | exact Vw_int (by first | rfl | assumption | omega | (simp; done) | (simp; omega)) | exact Vw_c (by first | rfl | (simp; done) | simp_all) | exact .any) (SlTo_cons (by first | exact .rd .d | exact .any) (SlTo_cons (by first | exact .rd .d | exact .any) (SlTo_cons (by first | exact .rd .d | exact .any) SlTo_nil))))
      · skip
        exact Nat.le_refl _
      rintro i hi1
      show AC _ _ _ _ _ (FS [3, 4, 5] _ [(7, i64 ((i : Nat) : Int))]) []
      refine AC_seq fun K15 hK15 => ?_
      refine AC_seq fun K16 hK16 => ?_
      refine AC_region ?_
      refine AL_ev (Ev_move) rfl ?_
      refine AL_ev (Ev_move) rfl ?_
      first | refine AL_lim (x := (Operand.tmp 35)) rfl fun hl2 => ?_ | refine AL_limB (x := (Operand.tmp 35)) rfl rfl (by first | rfl | (simp; done) | (simp; omega)) fun hl2 => ?_ | have hl2 := True.intro
      try simp only [injs_length, ints_length, strs_length, injCs_length, u8s_length, List.length_map] at hl2
      first | refine AL_ev (Ev_len_injs te24 rfl) rfl ?_ | refine AL_ev (Ev_len_sl te24 rfl) rfl ?_ | refine AL_ev (Ev_len_ref te24 rfl) rfl ?_ | refine AL_ev (Ev_len_nil te24 rfl) rfl ?_ | refine AL_ev (Ev_len_c te24 rfl) rfl ?_
      refine AL_ev (Ev_lss rfl rfl) rfl ?_
      refine AL_nil ?_
      refine hK16 _ _ _ ?_
      refine AC_cond rfl (fun hc4 => ?_) (fun hc4 => ?_)
      · skip
        have hlt : i < B.length := by have := of_decide_eq_true hc4; omega
        obtain ⟨b0, hb0⟩ : ∃ b, B[i]? = some b := ⟨_, List.getElem?_eq_getElem hlt⟩
        obtain ⟨a0, ha0⟩ : ∃ a, B[i - 1]? = some a := ⟨_, List.getElem?_eq_getElem (by omega)⟩
        have hb2 := injs_get hb0
        have ha2 : (injs B)[(((i : Nat) : Int) - 1).toNat]? = some (inj a0) := by rw [show (((i : Nat) : Int) - 1).toNat = i - 1 by omega]; exact injs_get ha0
        have hma := List.mem_of_getElem? ha0
        have hmb := List.mem_of_getElem? hb0
        refine AC_skip ?_
        refine hK15 _ _ _ ?_
        refine AC_seq fun K17 hK17 => ?_
        refine AC_block ?_
        refine AC_seq fun K18 hK18 => ?_
        refine AC_draw hT follows [0, 1, 2, 3, 4, 5, 6, 7, 8, 9, 10] (by kernel_rfl) ?_
        refine DT_ev rfl (EA_move) rfl ?_
        refine DT_ev rfl (EA_move) rfl ?_
        first | refine DT_ev rfl (EA_sub rfl rfl _ (wrap_id (by first | omega | (simp; omega)) (by first | omega | (simp; omega)))) rfl ?_ | refine DT_ev rfl (EA_sub rfl rfl _ rfl) rfl ?_
        first | refine DT_ev rfl (EA_ix_sl rfl rfl te24 ts35 (by omega) (by assumption)) rfl ?_ | refine DT_ev rfl (EA_ix_ref rfl rfl te24 ts35 (by omega) (by first | omega | (simp; omega))) rfl ?_
        first | refine DT_ev rfl (EA_load_ptr rfl rfl rfl rfl rfl rfl ts35 ta35 (by first | rfl | assumption | simp) (by intro h; cases h)) rfl ?_ | refine DT_ev rfl (EA_load_rp rfl rfl rfl ts35 ta35 (by first | rfl | assumption | simp) (by intro h; cases h)) rfl ?_
        refine DT_ev rfl (EA_move) rfl ?_
        refine DT_ev rfl (EA_move) rfl ?_
        first | refine DT_ev rfl (EA_ix_sl rfl rfl te24 ts35 (by omega) (by assumption)) rfl ?_ | refine DT_ev rfl (EA_ix_ref rfl rfl te24 ts35 (by omega) (by first | omega | (simp; omega))) rfl ?_
        first | refine DT_ev rfl (EA_load_ptr rfl rfl rfl rfl rfl rfl ts35 ta35 (by first | rfl | assumption | simp) (by intro h; cases h)) rfl ?_ | refine DT_ev rfl (EA_load_rp rfl rfl rfl ts35 ta35 (by first | rfl | assumption | simp) (by intro h; cases h)) rfl ?_
        refine DT_fcall0 rfl rfl cl18 (c_specCompare a0 b0 (f7 a0 hma) (f7 b0 hmb) (by have := (hts a0 (f11 a0 hma)).1; omega) (by have := (hts b0 (f11 b0 hmb)).1; omega)) rfl rfl ?_
        refine DT_ev rfl (EA_geq rfl rfl) rfl ?_
        refine DTi.nil ?_
        refine hK18 _ _ _ ?_
        refine AC_cond rfl (fun hc5 => ?_) (fun hc5 => ?_)
        · skip
          have h8 : cmpT a0 b0 ≥ 0 := of_decide_eq_true hc5
          have h9 : cmpT a0 b0 < 0 := pw_get f2 hi1 ha0 hb0
          omega
        · skip
          refine AC_skip ?_
          refine hK17 _ _ _ ?_
          refine AC_region ?_
          refine AL_ev (Ev_move) rfl ?_
          first | refine AL_ev (Ev_add rfl rfl _ (wrap_id (by first | omega | (simp; omega)) (by first | omega | (simp; omega)))) rfl ?_ | refine AL_ev (Ev_add rfl rfl _ rfl) rfl ?_
          refine AL_ev (Ev_assign) rfl ?_
          refine AL_nil ?_
          refine closeS (i + 1) [] rfl rfl (by show B.length + 1 - (i + 1) < B.length + 1 - i; omega) ?_ BxTo_nil (SlTo_cons (by first | exact .rd .d | exact Vw_int (by first | rfl | assumption | omega | (simp; done) | (simp; omega)) | exact Vw_c (by first | rfl | (simp; done) | simp_all) | exact .any) (SlTo_cons (by first | exact .rd .d | exact .any) (SlTo_cons (by first | exact .rd .d | exact .any) (SlTo_cons (by first | exact .rd .d | exact .any) SlTo_nil))))
          show 1 ≤ i + 1; omega
      · skip
        refine AC_exit ?_
        refine hK13 _ _ _ ?_
        refine AC_seq fun K19 hK19 => ?_
        refine AC_seq fun K20 hK20 => ?_
        refine AC_region ?_
        refine AL_ev (Ev_assign) rfl ?_
        refine AL_nil ?_
        refine hK20 _ _ _ ?_
        refine AC_block ?_
        refine AC_loopS [3, 4, 5] (Nat) (fun j => [(8, i64 j)]) (fun j => []) (fun st => ts.length - st) (fun j => j ≤ ts.length ∧ True) (0) ?_ ?_ ?_
        · skip
          exact enterS [] rfl rfl BxTo_nil (SlTo_cons (by first | exact .rd .d | exact Vw_int (by first | rfl | assumption | omega | (simp; done) | (simp; omega)) | exact Vw_c (by first | rfl | (simp; done) | simp_all) | exact .any) (SlTo_cons (by first | exact .rd .d | exact .any) (SlTo_cons (by first | exact .rd .d | exact .any) (SlTo_cons (by first | exact .rd .d | exact .any) SlTo_nil))))
        · skip
          exact ⟨Nat.zero_le _, trivial⟩
        rintro j ⟨hj, hI⟩
        show AC _ _ _ _ _ (FS [3, 4, 5] _ [(8, i64 j)]) []
        refine AC_seq fun K21 hK21 => ?_
        refine AC_seq fun K22 hK22 => ?_
        refine AC_region ?_
        refine AL_ev (Ev_move) rfl ?_
        refine AL_ev (Ev_move) rfl ?_
        first | refine AL_lim (x := (Operand.tmp 52)) rfl fun hl3 => ?_ | refine AL_limB (x := (Operand.tmp 52)) rfl rfl (by first | rfl | (simp; done) | (simp; omega)) fun hl3 => ?_ | have hl3 := True.intro
        try simp only [injs_length, ints_length, strs_length, injCs_length, u8s_length, List.length_map] at hl3
        first | refine AL_ev (Ev_len_injs te24 rfl) rfl ?_ | refine AL_ev (Ev_len_sl te24 rfl) rfl ?_ | refine AL_ev (Ev_len_ref te24 rfl) rfl ?_ | refine AL_ev (Ev_len_nil te24 rfl) rfl ?_ | refine AL_ev (Ev_len_c te24 rfl) rfl ?_
        refine AL_ev (Ev_lss rfl rfl) rfl ?_
        refine AL_nil ?_
        refine hK22 _ _ _ ?_
        refine AC_cond rfl (fun hc6 => ?_) (fun hc6 => ?_)
        · skip
          have hlt : j < ts.length := by simpa using hc6
          obtain ⟨u, hu⟩ : ∃ x, ts[j]? = some x := ⟨_, List.getElem?_eq_getElem hlt⟩
          have hu2 := injs_get hu
          have hdr := drop_get hu
          have hmu := List.mem_of_getElem? hu
          refine AC_skip ?_
          refine hK21 _ _ _ ?_
          refine AC_seq fun K23 hK23 => ?_
          refine AC_block ?_
          refine AC_seq fun K24 hK24 => ?_
          refine AC_region ?_
          refine AL_ev (Ev_move) rfl ?_
          refine AL_ev (Ev_move) rfl ?_
          refine AL_ev (Ev_move) rfl ?_
          first | refine AL_ev (Ev_ix_sl rfl rfl te24 ts35 (by omega) (by assumption)) rfl ?_ | refine AL_ev (Ev_ix_ref rfl rfl te24 ts35 (by omega) (by first | omega | (simp; omega))) rfl ?_
          first | refine AL_ev (Ev_load_ptr rfl rfl rfl rfl rfl rfl ts35 ta35 (by first | rfl | assumption | simp) (by intro h; cases h)) rfl ?_ | refine AL_ev (Ev_load_rp rfl rfl rfl ts35 ta35 (by first | rfl | assumption | simp) (by intro h; cases h)) rfl ?_
          refine AL_fcall0 hT rfl cl19 (c_termIn B u) rfl rfl ?_
          refine AL_ev (Ev_lss rfl rfl) rfl ?_
          refine AL_ev (Ev_move) rfl ?_
          refine AL_bool 64 rfl (fun hg7 => ?_) (fun hg7 => ?_)
          · skip
            have h8 : idxB (fun x => sameB x u) B 0 < 0 := of_decide_eq_true hg7
            have := idxB_mem (t := u) (j := 0) (f3 u hmu).2
            omega
          · skip
            refine AL_guard_t rfl rfl rfl ?_
            refine AL_ev (Ev_move) rfl ?_
            refine AL_guard_t rfl rfl rfl ?_
            refine AL_ev (Ev_move) rfl ?_
            refine AL_guard_t rfl rfl rfl ?_
            refine AL_ev (Ev_move) rfl ?_
            refine AL_guard_t rfl rfl rfl ?_
            first | refine AL_ev (Ev_ix_sl rfl rfl te24 ts35 (by omega) (by assumption)) rfl ?_ | refine AL_ev (Ev_ix_ref rfl rfl te24 ts35 (by omega) (by first | omega | (simp; omega))) rfl ?_
            refine AL_guard_t rfl rfl rfl ?_
            first | refine AL_ev (Ev_load_ptr rfl rfl rfl rfl rfl rfl ts35 ta35 (by first | rfl | assumption | simp) (by intro h; cases h)) rfl ?_ | refine AL_ev (Ev_load_rp rfl rfl rfl ts35 ta35 (by first | rfl | assumption | simp) (by intro h; cases h)) rfl ?_
            refine AL_guard_t rfl rfl rfl ?_
            refine AL_fcall0 hT rfl cl19 (c_termIn A u) rfl rfl ?_
            refine AL_guard_t rfl rfl rfl ?_
            refine AL_ev (Ev_lss rfl rfl) rfl ?_
            refine AL_ev (Ev_pick rfl) rfl ?_
            refine AL_nil ?_
            refine hK24 _ _ _ ?_
            refine AC_cond rfl (fun hc8 => ?_) (fun hc8 => ?_)
            · skip
              have h8 : idxB (fun x => sameB x u) A 0 < 0 := of_decide_eq_true hc8
              have := idxB_mem (t := u) (j := 0) (f3 u hmu).1
              omega
            · skip
              refine AC_skip ?_
              refine hK23 _ _ _ ?_
              refine AC_region ?_
              refine AL_ev (Ev_move) rfl ?_
              first | refine AL_ev (Ev_add rfl rfl _ (wrap_id (by first | omega | (simp; omega)) (by first | omega | (simp; omega)))) rfl ?_ | refine AL_ev (Ev_add rfl rfl _ rfl) rfl ?_
              refine AL_ev (Ev_assign) rfl ?_
              refine AL_nil ?_
              refine closeS (j + 1) [] rfl rfl (by show ts.length - (j + 1) < ts.length - j; omega) ⟨hlt, ?_⟩ BxTo_nil (SlTo_cons (by first | exact .rd .d | exact Vw_int (by first | rfl | assumption | omega | (simp; done) | (simp; omega)) | exact Vw_c (by first | rfl | (simp; done) | simp_all) | exact .any) (SlTo_cons (by first | exact .rd .d | exact .any) (SlTo_cons (by first | exact .rd .d | exact .any) (SlTo_cons (by first | exact .rd .d | exact .any) SlTo_nil))))
              trivial
        · skip
          have hj2 : j = ts.length := by
            have : ¬ j < ts.length := by simpa using hc6
            omega
          subst hj2
          refine AC_exit ?_
          refine hK19 _ _ _ ?_
          refine AC_seq fun K25 hK25 => ?_
          refine AC_region ?_
          refine AL_ev (Ev_move) rfl ?_
          first | refine AL_lim (x := (Operand.tmp 73)) rfl fun hl4 => ?_ | refine AL_limB (x := (Operand.tmp 73)) rfl rfl (by first | rfl | (simp; done) | (simp; omega)) fun hl4 => ?_ | have hl4 := True.intro
          try simp only [injs_length, ints_length, strs_length, injCs_length, u8s_length, List.length_map] at hl4
          first | refine AL_ev (Ev_len_injs te24 rfl) rfl ?_ | refine AL_ev (Ev_len_sl te24 rfl) rfl ?_ | refine AL_ev (Ev_len_ref te24 rfl) rfl ?_ | refine AL_ev (Ev_len_nil te24 rfl) rfl ?_ | refine AL_ev (Ev_len_c te24 rfl) rfl ?_
          refine AL_ev (Ev_move) rfl ?_
          first | refine AL_lim (x := (Operand.tmp 75)) rfl fun hl5 => ?_ | refine AL_limB (x := (Operand.tmp 75)) rfl rfl (by first | rfl | (simp; done) | (simp; omega)) fun hl5 => ?_ | have hl5 := True.intro
          try simp only [injs_length, ints_length, strs_length, injCs_length, u8s_length, List.length_map] at hl5
          first | refine AL_ev (Ev_len_injs te24 rfl) rfl ?_ | refine AL_ev (Ev_len_sl te24 rfl) rfl ?_ | refine AL_ev (Ev_len_ref te24 rfl) rfl ?_ | refine AL_ev (Ev_len_nil te24 rfl) rfl ?_ | refine AL_ev (Ev_len_c te24 rfl) rfl ?_
          refine AL_ev (Ev_eql rfl rfl) rfl ?_
          refine AL_ev (Ev_move) rfl ?_
          refine AL_bool 78 rfl (fun hg9 => ?_) (fun hg9 => ?_)
          · skip
            refine AL_guard_t rfl rfl rfl ?_
            refine AL_ev (Ev_move) rfl ?_
            refine AL_guard_t rfl rfl rfl ?_
            first | refine AL_lim (x := (Operand.tmp 79)) rfl fun hl6 => ?_ | refine AL_limB (x := (Operand.tmp 79)) rfl rfl (by first | rfl | (simp; done) | (simp; omega)) fun hl6 => ?_ | have hl6 := True.intro
            try simp only [injs_length, ints_length, strs_length, injCs_length, u8s_length, List.length_map] at hl6
            first | refine AL_ev (Ev_len_injs te24 rfl) rfl ?_ | refine AL_ev (Ev_len_sl te24 rfl) rfl ?_ | refine AL_ev (Ev_len_ref te24 rfl) rfl ?_ | refine AL_ev (Ev_len_nil te24 rfl) rfl ?_ | refine AL_ev (Ev_len_c te24 rfl) rfl ?_
            refine AL_guard_t rfl rfl rfl ?_
            refine AL_ev (Ev_move) rfl ?_
            refine AL_guard_t rfl rfl rfl ?_
            first | refine AL_lim (x := (Operand.tmp 81)) rfl fun hl7 => ?_ | refine AL_limB (x := (Operand.tmp 81)) rfl rfl (by first | rfl | (simp; done) | (simp; omega)) fun hl7 => ?_ | have hl7 := True.intro
            try simp only [injs_length, ints_length, strs_length, injCs_length, u8s_length, List.length_map] at hl7
            first | refine AL_ev (Ev_len_injs te24 rfl) rfl ?_ | refine AL_ev (Ev_len_sl te24 rfl) rfl ?_ | refine AL_ev (Ev_len_ref te24 rfl) rfl ?_ | refine AL_ev (Ev_len_nil te24 rfl) rfl ?_ | refine AL_ev (Ev_len_c te24 rfl) rfl ?_
            refine AL_guard_t rfl rfl rfl ?_
            refine AL_ev (Ev_leq rfl rfl) rfl ?_
            refine AL_ev (Ev_pick rfl) rfl ?_
            refine AL_ev (Ev_move) rfl ?_
            refine AL_bool 85 rfl (fun hg10 => ?_) (fun hg10 => ?_)
            · skip
              refine AL_guard_t rfl rfl rfl ?_
              refine AL_ev (Ev_move) rfl ?_
              refine AL_guard_t rfl rfl rfl ?_
              refine AL_fcall0 hT rfl cl15 (hSB2) rfl rfl ?_
              refine AL_guard_t rfl rfl rfl ?_
              refine AL_ev (Ev_move) rfl ?_
              refine AL_guard_t rfl rfl rfl ?_
              refine AL_fcall0 hT rfl cl20 (c_sameTerms B B) rfl rfl ?_
              refine AL_ev (Ev_pick rfl) rfl ?_
              refine AL_ev (Ev_move) rfl ?_
              refine AL_bool 91 rfl (fun hg11 => ?_) (fun hg11 => ?_)
              · skip
                refine AL_guard_t rfl rfl rfl ?_
                refine AL_ev (Ev_move) rfl ?_
                refine AL_guard_t rfl rfl rfl ?_
                refine AL_fcall0 hT rfl cl10 (hSA2) rfl rfl ?_
                refine AL_guard_t rfl rfl rfl ?_
                refine AL_ev (Ev_move) rfl ?_
                refine AL_guard_t rfl rfl rfl ?_
                refine AL_fcall0 hT rfl cl20 (c_sameTerms A A) rfl rfl ?_
                refine AL_ev (Ev_pick rfl) rfl ?_
                refine AL_ev (Ev_assign) rfl ?_
                refine AL_nil ?_
                refine hK25 _ _ _ ?_
                refine AC_ret ?_
                exact ret_ok hdm (.tmp rfl rfl .nil) (.cons .d .nil) (by rw [(sameBL_iff A A).2 rfl])
              · skip
                rw [(sameBL_iff B B).2 rfl] at hg11; cases hg11
            · skip
              have := of_decide_eq_false hg10
              omega
          · skip
            have := of_decide_eq_false hg9
            omega

end Go.Proofs.Ytjhdkjacfclipaa
