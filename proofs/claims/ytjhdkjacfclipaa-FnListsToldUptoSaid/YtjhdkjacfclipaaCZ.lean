/- Contracts of functions. -/
import Derived.Test.YtjhdkjacfclipaaMt
import Derived.Test.YtjhdkjacfclipaaOk
import Derived.Test.YtjhdkjacfclipaaWn
import Derived.Test.YtjhdkjacfclipaaEng27
import Derived.Test.YtjhdkjacfclipaaCd
import Derived.Test.YtjhdkjacfclipaaProg
import Derived.KernelRfl
import Derived.Test.YtjhdkjacfclipaaCA
import Derived.Test.YtjhdkjacfclipaaCX
import Derived.Test.YtjhdkjacfclipaaCY
set_option linter.unusedVariables false
set_option linter.unusedSimpArgs false
namespace Go.Proofs.Ytjhdkjacfclipaa
open Go.Eng

theorem cl53 : Callable Try.prog 53 := Callable_of Try.func53 (by kernel_rfl) (by kernel_rfl)
theorem cl54 : Callable Try.prog 54 := Callable_of Try.func54 (by kernel_rfl) (by kernel_rfl)

set_option maxHeartbeats 1000000 in
set_option maxRecDepth 4000 in
theorem c_big (bs : List Int) : PCall Try.prog 16 [.sl .one (u8s bs)] (· = [.c (.bool (decide ((bs.length : Int) > 1048576)))]) := by
  refine PCall_of (n := 6) Try.func16 rfl rfl (Nat.le_of_ble_eq_true rfl) fun C hdm hT0 => ?_
  have hT := hT0
  refine AC_seq fun K1 hK1 => ?_
  refine AC_region ?_
  refine AL_ev (Ev_assign) rfl ?_
  refine AL_nil ?_
  refine hK1 _ _ _ ?_
  refine AC_seq fun K2 hK2 => ?_
  refine AC_region ?_
  refine AL_ev (Ev_move) rfl ?_
  first | refine AL_lim (x := (Operand.tmp 3)) rfl fun hl1 => ?_ | refine AL_limB (x := (Operand.tmp 3)) rfl rfl (by first | rfl | (simp; done) | (simp; omega)) fun hl1 => ?_ | have hl1 := True.intro
  try simp only [injs_length, ints_length, strs_length, injCs_length, u8s_length, List.length_map] at hl1
  first | refine AL_ev (Ev_len_u8s te30 rfl) rfl ?_ | refine AL_ev (Ev_len_sl te30 rfl) rfl ?_ | refine AL_ev (Ev_len_ref te30 rfl) rfl ?_ | refine AL_ev (Ev_len_nil te30 rfl) rfl ?_ | refine AL_ev (Ev_len_c te30 rfl) rfl ?_
  refine AL_ev (Ev_gtr rfl rfl) rfl ?_
  refine AL_ev (Ev_assign) rfl ?_
  refine AL_nil ?_
  refine hK2 _ _ _ ?_
  refine AC_ret ?_
  exact ret_ok hdm (.tmp rfl rfl .nil) (.cons .d .nil) rfl

set_option maxHeartbeats 1000000 in
set_option maxRecDepth 4000 in
theorem c_indexT (g : T → Bool) (kk : FuncId) (caps : List D) (hcl : Callable Try.prog kk) (hna : caps.all (fun d => !d.isAgg) = true) (xs : List T) (hto : ∀ c ∈ xs, PCall Try.prog kk ([inj c] ++ caps) (· = [.c (.bool (g c))])) : PCall Try.prog 53 [.sl LT (injs xs), .fn kk caps] (· = [.c (.int .i64 (idxB g xs 0))]) := by
  refine PCall_of (n := 19) Try.func53 rfl rfl (Nat.le_of_ble_eq_true rfl) fun C hdm hT0 => ?_
  have hT := hT0
  refine AC_seq fun K1 hK1 => ?_
  refine AC_region ?_
  refine AL_ev (Ev_assign) rfl ?_
  refine AL_nil ?_
  refine hK1 _ _ _ ?_
  refine AC_seq fun K2 hK2 => ?_
  refine AC_seq fun K3 hK3 => ?_
  refine AC_region ?_
  refine AL_ev (Ev_move) rfl ?_
  first | refine AL_lim (x := (Operand.tmp 6)) rfl fun hl1 => ?_ | refine AL_limB (x := (Operand.tmp 6)) rfl rfl (by first | rfl | (simp; done) | (simp; omega)) fun hl1 => ?_ | have hl1 := True.intro
  try simp only [injs_length, ints_length, strs_length, injCs_length, u8s_length, List.length_map] at hl1
  first | refine AL_ev (Ev_len_injs te24 rfl) rfl ?_ | refine AL_ev (Ev_len_sl te24 rfl) rfl ?_ | refine AL_ev (Ev_len_ref te24 rfl) rfl ?_ | refine AL_ev (Ev_len_nil te24 rfl) rfl ?_ | refine AL_ev (Ev_len_c te24 rfl) rfl ?_
  refine AL_ev (Ev_move) rfl ?_
  refine AL_nil ?_
  refine hK3 _ _ _ ?_
  refine AC_block ?_
  refine AC_loopS [0, 1, 7] (Nat) (fun j => [(8, i64 j)]) (fun j => []) (fun st => xs.length - st) (fun j => j ≤ xs.length ∧ idxB g xs 0 = idxB g (xs.drop j) j) (0) ?_ ?_ ?_
  · skip
    exact enterS [] rfl rfl BxTo_nil (SlTo_cons (by first | exact .rd .d | exact Vw_int (by first | rfl | assumption | omega | (simp; done) | (simp; omega)) | exact Vw_c (by first | rfl | (simp; done) | simp_all) | exact .any) (SlTo_cons (by first | exact .rd .d | exact .any) (SlTo_cons (by first | exact .rd .d | exact .any) (SlTo_cons (by first | exact .rd .d | exact .any) SlTo_nil))))
  · skip
    exact ⟨Nat.zero_le _, by simp⟩
  rintro j ⟨hj, hI⟩
  show AC _ _ _ _ _ (FS [0, 1, 7] _ [(8, i64 j)]) []
  refine AC_seq fun K4 hK4 => ?_
  refine AC_region ?_
  refine AL_ev (Ev_lss rfl rfl) rfl ?_
  refine AL_nil ?_
  refine hK4 _ _ _ ?_
  refine AC_seq fun K5 hK5 => ?_
  refine AC_cond rfl (fun hc1 => ?_) (fun hc1 => ?_)
  · skip
    have hlt : j < xs.length := by simpa using hc1
    obtain ⟨u, hu⟩ : ∃ x, xs[j]? = some x := ⟨_, List.getElem?_eq_getElem hlt⟩
    have hu2 := injs_get hu
    have hdr := drop_get hu
    refine AC_skip ?_
    refine hK5 _ _ _ ?_
    refine AC_seq fun K6 hK6 => ?_
    refine AC_block ?_
    refine AC_seq fun K7 hK7 => ?_
    refine AC_region ?_
    refine AL_ev (Ev_move) rfl ?_
    refine AL_ev (Ev_assign) rfl ?_
    refine AL_nil ?_
    refine hK7 _ _ _ ?_
    refine AC_seq fun K8 hK8 => ?_
    refine AC_region ?_
    refine AL_ev (Ev_move) rfl ?_
    refine AL_ev (Ev_move) rfl ?_
    refine AL_ev (Ev_move) rfl ?_
    first | refine AL_ev (Ev_ix_sl rfl rfl te24 ts35 (by omega) (by assumption)) rfl ?_ | refine AL_ev (Ev_ix_ref rfl rfl te24 ts35 (by omega) (by first | omega | (simp; omega))) rfl ?_
    first | refine AL_ev (Ev_load_ptr rfl rfl rfl rfl rfl rfl ts35 ta35 (by first | rfl | assumption | simp) (by intro h; cases h)) rfl ?_ | refine AL_ev (Ev_load_rp rfl rfl rfl ts35 ta35 (by first | rfl | assumption | simp) (by intro h; cases h)) rfl ?_
    refine AL_fcall hT rfl hna hcl (hto u (List.mem_of_getElem? hu)) rfl rfl ?_
    refine AL_nil ?_
    refine hK8 _ _ _ ?_
    refine AC_cond rfl (fun hc2 => ?_) (fun hc2 => ?_)
    · skip
      refine AC_seq fun K9 hK9 => ?_
      refine AC_region ?_
      refine AL_ev (Ev_move) rfl ?_
      refine AL_ev (Ev_assign) rfl ?_
      refine AL_nil ?_
      refine hK9 _ _ _ ?_
      refine AC_ret ?_
      refine ret_ok hdm (.tmp rfl rfl .nil) (.cons .d .nil) ?_
      try rw [hI]
      try rw [hdr]
      try simp_all [List.length_pos_iff, idxB]
      try omega
    · skip
      refine AC_skip ?_
      refine hK6 _ _ _ ?_
      refine AC_region ?_
      first | refine AL_ev (Ev_add rfl rfl _ (wrap_id (by first | omega | (simp; omega)) (by first | omega | (simp; omega)))) rfl ?_ | refine AL_ev (Ev_add rfl rfl _ rfl) rfl ?_
      refine AL_ev (Ev_move) rfl ?_
      refine AL_nil ?_
      refine closeS (j + 1) [] rfl rfl (by show xs.length - (j + 1) < xs.length - j; omega) ⟨hlt, ?_⟩ BxTo_nil (SlTo_cons (by first | exact .rd .d | exact Vw_int (by first | rfl | assumption | omega | (simp; done) | (simp; omega)) | exact Vw_c (by first | rfl | (simp; done) | simp_all) | exact .any) (SlTo_cons (by first | exact .rd .d | exact .any) (SlTo_cons (by first | exact .rd .d | exact .any) (SlTo_cons (by first | exact .rd .d | exact .any) SlTo_nil))))
      rw [hI]
      try rw [hdr]
      try simp_all [idxB]
      try omega
  · skip
    have hj2 : j = xs.length := by
      have : ¬ j < xs.length := by simpa using hc1
      omega
    subst hj2
    rw [List.drop_length] at hI
    refine AC_exit ?_
    refine hK2 _ _ _ ?_
    refine AC_seq fun K10 hK10 => ?_
    refine AC_region ?_
    refine AL_ev (Ev_assign) rfl ?_
    refine AL_nil ?_
    refine hK10 _ _ _ ?_
    refine AC_ret ?_
    refine ret_ok hdm (.tmp rfl rfl .nil) (.cons .d .nil) ?_
    try rw [hI]
    try rw [hdr]
    try simp_all [List.length_pos_iff, idxB]
    try omega

set_option maxHeartbeats 1000000 in
set_option maxRecDepth 4000 in
theorem c_termIn1 (t u : T) : PCall Try.prog 54 [inj u, .rp LT (inj t) []] (· = [.c (.bool (sameB u t))]) := by
  refine PCall_of (n := 7) Try.func54 rfl rfl (Nat.le_of_ble_eq_true rfl) fun C hdm hT0 => ?_
  have hT := hT0
  refine AC_seq fun K1 hK1 => ?_
  refine AC_region ?_
  refine AL_box (Lay.st [.one, .one, .one, .one]) (nf rfl) rfl (by first | rfl | simp [Lay.len, Lay.lens]) _ rfl rfl ?_
  refine AL_ev (Ev_assign) rfl ?_
  refine AL_nil ?_
  refine hK1 _ _ _ ?_
  refine AC_seq fun K2 hK2 => ?_
  refine AC_region ?_
  first | refine AL_ev (Ev_load_ptr rfl rfl rfl rfl rfl rfl ts35 ta35 (by first | rfl | assumption | simp) (by intro h; cases h)) rfl ?_ | refine AL_ev (Ev_load_rp rfl rfl rfl ts35 ta35 (by first | rfl | assumption | simp) (by intro h; cases h)) rfl ?_
  first | refine AL_ev (Ev_load_ptr rfl rfl rfl rfl rfl rfl ts35 ta35 (by first | rfl | assumption | simp) (by intro h; cases h)) rfl ?_ | refine AL_ev (Ev_load_rp rfl rfl rfl ts35 ta35 (by first | rfl | assumption | simp) (by intro h; cases h)) rfl ?_
  refine AL_fcall0 hT rfl cl48 (c_sameTerm u t rfl) rfl rfl ?_
  refine AL_ev (Ev_assign) rfl ?_
  refine AL_nil ?_
  refine hK2 _ _ _ ?_
  refine AC_ret ?_
  exact ret_ok hdm (.tmp rfl rfl .nil) (.cons .d .nil) rfl

set_option maxHeartbeats 1000000 in
set_option maxRecDepth 4000 in
theorem c_termIn (ks : List T) (t : T) : PCall Try.prog 19 [.sl LT (injs ks), inj t] (· = [.c (.int .i64 (idxB (fun x => sameB x t) ks 0))]) := by
  refine PCall_of (n := 8) Try.func19 rfl rfl (Nat.le_of_ble_eq_true rfl) fun C hdm hT0 => ?_
  have hT := hT0
  refine AC_seq fun K1 hK1 => ?_
  refine AC_region ?_
  refine AL_box (Lay.st [.one, .one, .one, .one]) (nf rfl) rfl (by first | rfl | simp [Lay.len, Lay.lens]) _ rfl rfl ?_
  refine AL_ev (Ev_assign) rfl ?_
  refine AL_nil ?_
  refine hK1 _ _ _ ?_
  refine AC_seq fun K2 hK2 => ?_
  refine AC_wk (Wk_to [] [(0, .d (.sl LT (injs ks))), (3, .d (.rp LT (inj t) []))] [] rfl rfl BxTo_nil (SlTo_cons (by first | exact .rd (.ptr (srcFree rfl) rfl rfl rfl .d) | exact .rd .d) (SlTo_cons (by first | exact .rd (.ptr (srcFree rfl) rfl rfl rfl .d) | exact .rd .d) SlTo_nil)) ?_)
  refine AC_region ?_
  refine AL_ev (Ev_move) rfl ?_
  refine AL_ev (Ev_func (ds := [.rp LT (inj t) []]) rfl rfl) rfl ?_
  refine AL_fcall0 hT rfl cl53 (c_indexT (fun x => sameB x t) 54 [.rp LT (inj t) []] cl54 rfl ks (fun u _ => c_termIn1 t u)) rfl rfl ?_
  refine AL_ev (Ev_assign) rfl ?_
  refine AL_nil ?_
  refine hK2 _ _ _ ?_
  refine AC_ret ?_
  exact ret_ok hdm (.tmp rfl rfl .nil) (.cons .d .nil) rfl

set_option maxHeartbeats 1000000 in
set_option maxRecDepth 4000 in
theorem c_sameTerms (ks ks2 : List T) : PCall Try.prog 20 [.sl LT (injs ks), .sl LT (injs ks2)] (· = [.c (.bool (sameBL ks ks2))]) := by
  refine PCall_of (n := 27) Try.func20 rfl rfl (Nat.le_of_ble_eq_true rfl) fun C hdm hT0 => ?_
  have hT := hT0
  refine AC_seq fun K1 hK1 => ?_
  refine AC_region ?_
  refine AL_ev (Ev_assign) rfl ?_
  refine AL_nil ?_
  refine hK1 _ _ _ ?_
  refine AC_seq fun K2 hK2 => ?_
  refine AC_seq fun K3 hK3 => ?_
  refine AC_region ?_
  refine AL_ev (Ev_move) rfl ?_
  first | refine AL_lim (x := (Operand.tmp 6)) rfl fun hl1 => ?_ | refine AL_limB (x := (Operand.tmp 6)) rfl rfl (by first | rfl | (simp; done) | (simp; omega)) fun hl1 => ?_ | have hl1 := True.intro
  try simp only [injs_length, ints_length, strs_length, injCs_length, u8s_length, List.length_map] at hl1
  first | refine AL_ev (Ev_len_injs te24 rfl) rfl ?_ | refine AL_ev (Ev_len_sl te24 rfl) rfl ?_ | refine AL_ev (Ev_len_ref te24 rfl) rfl ?_ | refine AL_ev (Ev_len_nil te24 rfl) rfl ?_ | refine AL_ev (Ev_len_c te24 rfl) rfl ?_
  refine AL_ev (Ev_move) rfl ?_
  first | refine AL_lim (x := (Operand.tmp 8)) rfl fun hl2 => ?_ | refine AL_limB (x := (Operand.tmp 8)) rfl rfl (by first | rfl | (simp; done) | (simp; omega)) fun hl2 => ?_ | have hl2 := True.intro
  try simp only [injs_length, ints_length, strs_length, injCs_length, u8s_length, List.length_map] at hl2
  first | refine AL_ev (Ev_len_injs te24 rfl) rfl ?_ | refine AL_ev (Ev_len_sl te24 rfl) rfl ?_ | refine AL_ev (Ev_len_ref te24 rfl) rfl ?_ | refine AL_ev (Ev_len_nil te24 rfl) rfl ?_ | refine AL_ev (Ev_len_c te24 rfl) rfl ?_
  refine AL_ev (Ev_neq rfl rfl) rfl ?_
  refine AL_nil ?_
  refine hK3 _ _ _ ?_
  refine AC_cond rfl (fun hc1 => ?_) (fun hc1 => ?_)
  · skip
    have hne : ¬ sameBL ks ks2 = true := fun h => by have := sameBL_len h; simp [this] at hc1
    refine AC_seq fun K4 hK4 => ?_
    refine AC_region ?_
    refine AL_ev (Ev_assign) rfl ?_
    refine AL_nil ?_
    refine hK4 _ _ _ ?_
    refine AC_ret ?_
    refine ret_ok hdm (.tmp rfl rfl .nil) (.cons .d .nil) ?_
    rw [Bool.eq_false_iff.2 hne]
  · skip
    have h9 : (ks.length : Int) = ks2.length := by simpa using hc1
    have hln : ks.length = ks2.length := by omega
    refine AC_skip ?_
    refine hK2 _ _ _ ?_
    refine AC_seq fun K5 hK5 => ?_
    refine AC_seq fun K6 hK6 => ?_
    refine AC_region ?_
    refine AL_ev (Ev_assign) rfl ?_
    refine AL_nil ?_
    refine hK6 _ _ _ ?_
    refine AC_block ?_
    refine AC_loopS [0, 1] (Nat) (fun j => [(5, i64 j)]) (fun j => []) (fun st => ks.length - st) (fun j => j ≤ ks.length ∧ (sameBL ks ks2 = sameBL (ks.drop j) (ks2.drop j))) (0) ?_ ?_ ?_
    · skip
      exact enterS [] rfl rfl BxTo_nil (SlTo_cons (by first | exact .rd .d | exact Vw_int (by first | rfl | assumption | omega | (simp; done) | (simp; omega)) | exact Vw_c (by first | rfl | (simp; done) | simp_all) | exact .any) (SlTo_cons (by first | exact .rd .d | exact .any) (SlTo_cons (by first | exact .rd .d | exact .any) SlTo_nil)))
    · skip
      exact ⟨Nat.zero_le _, by simp⟩
    rintro j ⟨hj, hI⟩
    show AC _ _ _ _ _ (FS [0, 1] _ [(5, i64 j)]) []
    refine AC_seq fun K7 hK7 => ?_
    refine AC_seq fun K8 hK8 => ?_
    refine AC_region ?_
    refine AL_ev (Ev_move) rfl ?_
    refine AL_ev (Ev_move) rfl ?_
    first | refine AL_lim (x := (Operand.tmp 12)) rfl fun hl3 => ?_ | refine AL_limB (x := (Operand.tmp 12)) rfl rfl (by first | rfl | (simp; done) | (simp; omega)) fun hl3 => ?_ | have hl3 := True.intro
    try simp only [injs_length, ints_length, strs_length, injCs_length, u8s_length, List.length_map] at hl3
    first | refine AL_ev (Ev_len_injs te24 rfl) rfl ?_ | refine AL_ev (Ev_len_sl te24 rfl) rfl ?_ | refine AL_ev (Ev_len_ref te24 rfl) rfl ?_ | refine AL_ev (Ev_len_nil te24 rfl) rfl ?_ | refine AL_ev (Ev_len_c te24 rfl) rfl ?_
    refine AL_ev (Ev_lss rfl rfl) rfl ?_
    refine AL_nil ?_
    refine hK8 _ _ _ ?_
    refine AC_cond rfl (fun hc2 => ?_) (fun hc2 => ?_)
    · skip
      have hlt : j < ks.length := by simpa using hc2
      obtain ⟨u, hu⟩ : ∃ x, ks[j]? = some x := ⟨_, List.getElem?_eq_getElem hlt⟩
      have hu2 := injs_get hu
      have hdr := drop_get hu
      obtain ⟨v, hv⟩ : ∃ x, ks2[j]? = some x := ⟨_, List.getElem?_eq_getElem (by omega)⟩
      have hv2 := injs_get hv
      have hdr2 := drop_get hv
      rw [hdr, hdr2, sameBL] at hI
      refine AC_skip ?_
      refine hK7 _ _ _ ?_
      refine AC_seq fun K9 hK9 => ?_
      refine AC_block ?_
      refine AC_seq fun K10 hK10 => ?_
      refine AC_draw hT follows [0, 1, 2, 3, 4, 5, 6, 7, 8, 9] (by kernel_rfl) ?_
      refine DT_ev rfl (EA_move) rfl ?_
      refine DT_ev rfl (EA_move) rfl ?_
      first | refine DT_ev rfl (EA_ix_sl rfl rfl te24 ts35 (by omega) (by assumption)) rfl ?_ | refine DT_ev rfl (EA_ix_ref rfl rfl te24 ts35 (by omega) (by first | omega | (simp; omega))) rfl ?_
      first | refine DT_ev rfl (EA_load_ptr rfl rfl rfl rfl rfl rfl ts35 ta35 (by first | rfl | assumption | simp) (by intro h; cases h)) rfl ?_ | refine DT_ev rfl (EA_load_rp rfl rfl rfl ts35 ta35 (by first | rfl | assumption | simp) (by intro h; cases h)) rfl ?_
      refine DT_ev rfl (EA_move) rfl ?_
      refine DT_ev rfl (EA_move) rfl ?_
      first | refine DT_ev rfl (EA_ix_sl rfl rfl te24 ts35 (by omega) (by assumption)) rfl ?_ | refine DT_ev rfl (EA_ix_ref rfl rfl te24 ts35 (by omega) (by first | omega | (simp; omega))) rfl ?_
      first | refine DT_ev rfl (EA_load_ptr rfl rfl rfl rfl rfl rfl ts35 ta35 (by first | rfl | assumption | simp) (by intro h; cases h)) rfl ?_ | refine DT_ev rfl (EA_load_rp rfl rfl rfl ts35 ta35 (by first | rfl | assumption | simp) (by intro h; cases h)) rfl ?_
      refine DT_fcall0 rfl rfl cl32 ((c_specSameTerm u v rfl)) rfl rfl ?_
      refine DT_ev rfl (EA_not rfl) rfl ?_
      refine DTi.nil ?_
      refine hK10 _ _ _ ?_
      refine AC_cond rfl (fun hc3 => ?_) (fun hc3 => ?_)
      · skip
        refine AC_seq fun K11 hK11 => ?_
        refine AC_region ?_
        refine AL_ev (Ev_assign) rfl ?_
        refine AL_nil ?_
        refine hK11 _ _ _ ?_
        refine AC_ret ?_
        refine ret_ok hdm (.tmp rfl rfl .nil) (.cons .d .nil) ?_
        rw [hI, show sameB u v = false by simpa using hc3, Bool.false_and]
      · skip
        refine AC_skip ?_
        refine hK9 _ _ _ ?_
        refine AC_region ?_
        refine AL_ev (Ev_move) rfl ?_
        first | refine AL_ev (Ev_add rfl rfl _ (wrap_id (by first | omega | (simp; omega)) (by first | omega | (simp; omega)))) rfl ?_ | refine AL_ev (Ev_add rfl rfl _ rfl) rfl ?_
        refine AL_ev (Ev_assign) rfl ?_
        refine AL_nil ?_
        refine closeS (j + 1) [] rfl rfl (by show ks.length - (j + 1) < ks.length - j; omega) ⟨hlt, ?_⟩ BxTo_nil (SlTo_cons (by first | exact .rd .d | exact Vw_int (by first | rfl | assumption | omega | (simp; done) | (simp; omega)) | exact Vw_c (by first | rfl | (simp; done) | simp_all) | exact .any) (SlTo_cons (by first | exact .rd .d | exact .any) (SlTo_cons (by first | exact .rd .d | exact .any) SlTo_nil)))
        rw [hI, show sameB u v = true by simpa using hc3, Bool.true_and]
    · skip
      have hj2 : j = ks.length := by
        have : ¬ j < ks.length := by simpa using hc2
        omega
      subst hj2
      rw [List.drop_length] at hI
      refine AC_exit ?_
      refine hK5 _ _ _ ?_
      refine AC_seq fun K12 hK12 => ?_
      refine AC_region ?_
      refine AL_ev (Ev_assign) rfl ?_
      refine AL_nil ?_
      refine hK12 _ _ _ ?_
      refine AC_ret ?_
      refine ret_ok hdm (.tmp rfl rfl .nil) (.cons .d .nil) ?_
      rw [hI, List.drop_eq_nil_of_le (by omega)]; rfl

end Go.Proofs.Ytjhdkjacfclipaa
