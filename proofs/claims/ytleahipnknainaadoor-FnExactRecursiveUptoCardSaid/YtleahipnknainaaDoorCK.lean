/- Contracts of functions. -/
import Derived.Test.YtleahipnknainaaDoorMt
import Derived.Test.YtleahipnknainaaDoorOk
import Derived.Test.YtleahipnknainaaDoorWn
import Derived.Test.YtleahipnknainaaDoorEng27
import Derived.Test.YtleahipnknainaaDoorCs
import Derived.Test.YtleahipnknainaaDoorTy
import Derived.Test.YtleahipnknainaaDoorCJ
set_option linter.unusedVariables false
set_option linter.unusedSimpArgs false
namespace Go.Proofs.YtleahipnknainaaDoor
open Go.Eng

set_option maxHeartbeats 1000000 in
set_option maxRecDepth 4000 in
theorem c_recursive (d : Dbt) (p : ByteArray) (hb : bulkD d ≤ 1048576) : PCall Tryd.prog 43 [injD d, .c (.string p)] (· = [.c (.bool (hasS (reachedFrom d p) p))]) := by
  refine PCall_of (n := 10) Tryd.func43 rfl rfl (Nat.le_of_ble_eq_true rfl) fun C hdm hT0 => ?_
  have hT := hT0
  refine AC_seq fun K1 hK1 => ?_
  refine AC_region ?_
  refine AL_box (Lay.st [.one, .one]) (nf rfl) rfl (by first | rfl | simp [Lay.len, Lay.lens]) _ rfl rfl ?_
  refine AL_ev (Ev_assign) rfl ?_
  refine AL_nil ?_
  refine hK1 _ _ _ ?_
  refine AC_seq fun K2 hK2 => ?_
  refine AC_region ?_
  first | refine AL_ev (Ev_load_ptr rfl rfl rfl rfl rfl rfl ts30 ta30 (by first | rfl | simp) (by intro h; cases h)) rfl ?_ | refine AL_ev (Ev_load_rp rfl rfl rfl ts30 ta30 (by first | rfl | simp) (by intro h; cases h)) rfl ?_
  refine AL_ev (Ev_move) rfl ?_
  refine AL_fcall0 hT rfl cl49 ((c_reachedFromN d p hb).ocall.pcall) rfl rfl ?_
  refine AL_ev (Ev_move) rfl ?_
  refine AL_fcall0 hT rfl cl85 (c_containsS (reachedFrom d p) p) rfl rfl ?_
  refine AL_ev (Ev_assign) rfl ?_
  refine AL_nil ?_
  refine hK2 _ _ _ ?_
  refine AC_ret ?_
  exact ret_ok hdm (.tmp rfl rfl .nil) (.cons .d .nil) rfl

set_option maxHeartbeats 1000000 in
set_option maxRecDepth 4000 in
theorem c_specRecursive (d : Dbt) (p : ByteArray) (hb : bulkD d ≤ 1048576) : PCall Tryd.prog 42 [injD d, .c (.string p)] (· = [.c (.bool (hasS (reachedFrom d p) p))]) := by
  refine PCall_of (n := 10) Tryd.func42 rfl rfl (Nat.le_of_ble_eq_true rfl) fun C hdm hT0 => ?_
  have hT := hT0
  refine AC_seq fun K1 hK1 => ?_
  refine AC_region ?_
  refine AL_box (Lay.st [.one, .one]) (nf rfl) rfl (by first | rfl | simp [Lay.len, Lay.lens]) _ rfl rfl ?_
  refine AL_ev (Ev_assign) rfl ?_
  refine AL_nil ?_
  refine hK1 _ _ _ ?_
  refine AC_seq fun K2 hK2 => ?_
  refine AC_region ?_
  first | refine AL_ev (Ev_load_ptr rfl rfl rfl rfl rfl rfl ts30 ta30 (by first | rfl | simp) (by intro h; cases h)) rfl ?_ | refine AL_ev (Ev_load_rp rfl rfl rfl ts30 ta30 (by first | rfl | simp) (by intro h; cases h)) rfl ?_
  refine AL_ev (Ev_move) rfl ?_
  refine AL_fcall0 hT rfl cl48 (c_specReachedFrom d p hb) rfl rfl ?_
  refine AL_ev (Ev_move) rfl ?_
  refine AL_fcall0 hT rfl cl78 (c_l23Has (reachedFrom d p) p) rfl rfl ?_
  refine AL_ev (Ev_assign) rfl ?_
  refine AL_nil ?_
  refine hK2 _ _ _ ?_
  refine AC_ret ?_
  exact ret_ok hdm (.tmp rfl rfl .nil) (.cons .d .nil) rfl

set_option maxHeartbeats 1000000 in
set_option maxRecDepth 4000 in
theorem c_lawRecursive (d : Dbt) (p : ByteArray) (hz0 : (p.size : Int) ≤ 1048576) (hb : bulkD d ≤ 1048576) : PCall Tryd.prog 8 [injD d, .c (.string p)] (· = [.c (.bool true)]) := by
  have hcs := cntCs_nn d.cs
  have hcb := cntCs_bulk d.cs
  obtain ⟨hb1, hb2, hb3, hb4⟩ := bulkD_bd (cs := d.cs) (op := d.op) (B := 1048576) hb
  refine PCall_of (n := 34) Tryd.func8 rfl rfl (Nat.le_of_ble_eq_true rfl) fun C hdm hT0 => ?_
  have hT := hT0
  have hX0 := CExt.refl C
  refine AC_seq fun K1 hK1 => ?_
  refine AC_region ?_
  refine AL_box (Lay.st [.one, .one]) (nf rfl) rfl (by first | rfl | simp [Lay.len, Lay.lens]) _ rfl rfl ?_
  refine AL_ev (Ev_assign) rfl ?_
  refine AL_nil ?_
  refine hK1 _ _ _ ?_
  refine AC_seq fun K2 hK2 => ?_
  refine AC_seq fun K3 hK3 => ?_
  refine AC_region ?_
  refine AL_ev (Ev_move) rfl ?_
  refine AL_ev (Ev_len_str tstr9 rfl) rfl ?_
  refine AL_ev (Ev_gtr rfl rfl) rfl ?_
  refine AL_nil ?_
  refine hK3 _ _ _ ?_
  refine AC_cond rfl (fun hc1 => ?_) (fun hc1 => ?_)
  · skip
    have : (p.size : Int) > 1048576 := by simpa using hc1
    omega
  · skip
    refine AC_skip ?_
    refine hK2 _ _ _ ?_
    refine AC_seq fun K4 hK4 => ?_
    refine AC_region ?_
    refine AL_ev (Ev_assign) rfl ?_
    refine AL_nil ?_
    refine hK4 _ _ _ ?_
    refine AC_seq fun K5 hK5 => ?_
    refine AC_region ?_
    first | refine AL_ev (Ev_load_ptr rfl rfl rfl rfl rfl rfl ts25 ta25 (by first | rfl | simp) (by intro h; cases h)) rfl ?_ | refine AL_ev (Ev_load_rp rfl rfl rfl ts25 ta25 (by first | rfl | simp) (by intro h; cases h)) rfl ?_
    refine AL_ev (Ev_move) rfl ?_
    refine AL_fcall0 hT rfl cl15 (c_szDb d 1048576 hb (by omega)) rfl rfl ?_
    refine AL_ev (Ev_assign) rfl ?_
    refine AL_nil ?_
    refine hK5 _ _ _ ?_
    refine AC_seq fun K6 hK6 => ?_
    refine AC_seq fun K7 hK7 => ?_
    refine AC_region ?_
    refine AL_ev (Ev_move) rfl ?_
    refine AL_ev (Ev_lss rfl rfl) rfl ?_
    refine AL_nil ?_
    refine hK7 _ _ _ ?_
    refine AC_cond rfl (fun hc2 => ?_) (fun hc2 => ?_)
    · skip
      have : (1048576 : Int) - (bulkD d) < 0 := by simpa using hc2
      omega
    · skip
      refine AC_skip ?_
      refine hK6 _ _ _ ?_
      refine AC_seq fun K8 hK8 => ?_
      refine AC_region ?_
      first | refine AL_ev (Ev_load_ptr rfl rfl rfl rfl rfl rfl ts25 ta25 (by first | rfl | simp) (by intro h; cases h)) rfl ?_ | refine AL_ev (Ev_load_rp rfl rfl rfl ts25 ta25 (by first | rfl | simp) (by intro h; cases h)) rfl ?_
      refine AL_fcall0 hT rfl cl17 ((c_toDb d).pcall) rfl rfl ?_
      refine AL_ev (Ev_move) rfl ?_
      refine AL_fcall0 hT rfl cl42 (c_specRecursive d p hb) rfl rfl ?_
      refine AL_ev (Ev_assign) rfl ?_
      refine AL_nil ?_
      refine hK8 _ _ _ ?_
      refine AC_seq fun K9 hK9 => ?_
      refine AC_region ?_
      first | refine AL_ev (Ev_load_ptr rfl rfl rfl rfl rfl rfl ts25 ta25 (by first | rfl | simp) (by intro h; cases h)) rfl ?_ | refine AL_ev (Ev_load_rp rfl rfl rfl ts25 ta25 (by first | rfl | simp) (by intro h; cases h)) rfl ?_
      refine AL_ocall0 hT LD rfl cl17 (c_toDb d) rfl (injD_lenL d) (injD_agL d) rfl fun C1 cs1 K1 hg1 => ?_
      have hX1 := hX0.trans hg1.ext
      have hT := hT.ext hg1.ext
      have hx := hg1.has
      refine AL_alloc zo30 _ rfl rfl ?_
      first | refine AL_store rfl (nf rfl) rfl rfl rfl rfl rfl rfl (by first | rfl | simp [Lay.len, Lay.lens]) ts30 rfl rfl ?_ | refine AL_store rfl (nf rfl) rfl rfl rfl hes rfl rfl (by first | rfl | simp [Lay.len, Lay.lens]) ts30 rfl rfl ?_
      refine AL_nil ?_
      refine hK9 _ _ _ ?_
      refine AC_seq fun K10 hK10 => ?_
      refine AC_region ?_
      first | refine AL_ev (Ev_load_ptr rfl rfl rfl rfl rfl rfl ts30 ta30 (by first | rfl | simp) (by intro h; cases h)) rfl ?_ | refine AL_ev (Ev_load_rp rfl rfl rfl ts30 ta30 (by first | rfl | simp) (by intro h; cases h)) rfl ?_
      refine AL_ev (Ev_move) rfl ?_
      refine AL_qcall hT rfl cl43 (c_recursive d p hb) (.cons (.raw (l := LD) (cs := cs1) hx hg1.len (injD_agL d)) (.cons (.rd .d) .nil)) rfl ?_
      refine AL_ev (Ev_assign) rfl ?_
      refine AL_nil ?_
      refine hK10 _ _ _ ?_
      refine AC_seq fun K11 hK11 => ?_
      refine AC_seq fun K12 hK12 => ?_
      refine AC_region ?_
      refine AL_ev (Ev_move) rfl ?_
      refine AL_ev (Ev_move) rfl ?_
      refine AL_ev (Ev_bneq tbool4 rfl rfl) rfl ?_
      refine AL_nil ?_
      refine hK12 _ _ _ ?_
      refine AC_cond rfl (fun hc3 => ?_) (fun hc3 => ?_)
      · skip
        exact absurd hc3 (by simp)
      · skip
        refine AC_skip ?_
        refine hK11 _ _ _ ?_
        refine AC_seq fun K13 hK13 => ?_
        refine AC_seq fun K14 hK14 => ?_
        refine AC_draw hT follows [0, 1, 2, 3, 4] (by kernel_rfl) ?_
        first | refine DT_ev rfl (EA_load_ptr rfl rfl rfl rfl rfl rfl ts30 ta30 (by first | rfl | simp) (by intro h; cases h)) rfl ?_ | refine DT_ev rfl (EA_load_rp rfl rfl rfl ts30 ta30 (by first | rfl | simp) (by intro h; cases h)) rfl ?_
        first | refine DT_ev rfl (EA_load_ptr rfl rfl rfl rfl rfl rfl ts25 ta25 (by first | rfl | simp) (by intro h; cases h)) rfl ?_ | refine DT_ev rfl (EA_load_rp rfl rfl rfl ts25 ta25 (by first | rfl | simp) (by intro h; cases h)) rfl ?_
        refine DT_fcall0 rfl rfl cl17 ((c_toDb d).pcall) rfl rfl ?_
        refine DT_qcall hT rfl rfl cl20 (c_eqDb d) (fun L2 => .cons (.raw (l := LD) (cs := cs1) hx hg1.len (injD_agL d)) (.cons (.rd .d) .nil)) rfl (by kernel_rfl) ?_
        refine DT_ev rfl (EA_not rfl) rfl ?_
        refine DTi.nil ?_
        refine hK14 _ _ _ ?_
        refine AC_cond rfl (fun hc4 => ?_) (fun hc4 => ?_)
        · skip
          exact absurd hc4 (by simp)
        · skip
          refine AC_skip ?_
          refine hK13 _ _ _ ?_
          refine AC_seq fun K15 hK15 => ?_
          refine AC_region ?_
          refine AL_ev (Ev_assign) rfl ?_
          refine AL_nil ?_
          refine hK15 _ _ _ ?_
          refine AC_ret ?_
          exact ret_okX hX1 hdm (.tmp rfl rfl .nil) (.cons .d .nil) rfl

end Go.Proofs.YtleahipnknainaaDoor
