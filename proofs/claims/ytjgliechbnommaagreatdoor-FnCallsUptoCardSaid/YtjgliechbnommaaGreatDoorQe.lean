/- The engine and the contracts of the functions that the claim reaches (texts packed, part 5). -/
import Derived.Test.YtjgliechbnommaaGreatDoorQd
set_option linter.unusedVariables false
set_option linter.unusedSimpArgs false
namespace Go.Proofs.YtjgliechbnommaaGreatDoor
open Go.Eng
theorem tz139 : tyZero Tryz.prog 139 = some (some (.agg #[.int .i64 0, .string ⟨#[]⟩, .int .i64 0, .int .i64 0, .bool false])) := by kernel_rfl
theorem cl156 : Callable Tryz.prog 156 := Callable_of Tryz.func156 (by kernel_rfl) (by kernel_rfl)
theorem cl158 : Callable Tryz.prog 158 := Callable_of Tryz.func158 (by kernel_rfl) (by kernel_rfl)
theorem cl159 : Callable Tryz.prog 159 := Callable_of Tryz.func159 (by kernel_rfl) (by kernel_rfl)
theorem fa139_0 : tyField Tryz.prog 139 0 = some (0, true) := by kernel_rfl
theorem fa139_1 : tyField Tryz.prog 139 1 = some (1, true) := by kernel_rfl
theorem ta139 : tyAgg Tryz.prog 139 = some true := by kernel_rfl
theorem tpl139 : tyPlaces Tryz.prog 139 = some (layPlaces 0 [.one, .one, .one, .one, .one]) := by kernel_rfl
theorem ts139 : tySize Tryz.prog 139 = some 5 := by kernel_rfl
theorem zo139 : ZeroOf Tryz.prog 139 (Lay.st [.one, .one, .one, .one, .one]) (.d (.agg [.one, .one, .one, .one, .one] [.c (.int .i64 0), .c (.string ⟨#[]⟩), .c (.int .i64 0), .c (.int .i64 0), .c (.bool false)])) := ⟨_, tz139, rfl, fun _ _ _ => VC_cells rfl⟩
set_option maxHeartbeats 8000000 in
set_option maxRecDepth 4000 in
theorem c_sign (t : ByteArray) (i : Nat) (u : UInt8) (hs : t.size ≤ 1099511627776) (hu : (bts t)[i]? = some u) : PCall Tryz.prog 136 [.c (.string t), .c (.int .i64 ((i : Nat) : Int))] (· = [injG (signM t i).1, .c (.int .i64 (((signM t i).2 : Nat) : Int))]) := by
 have hu2 := bts_get hu
 have hlt : i < t.size := by simpa using lt_of_get hu
 have hub := byteI_get hu
 have hu9 := UInt8.toNat_lt u
 have hrw : i + runL wordB ((bts t).drop i) ≤ t.size := by have := runL_le wordB ((bts t).drop i); simp at this; omega
 have hqm := quoM_le hlt
 refine PCall_of (n := 167) Tryz.func136 rfl rfl (Nat.le_of_ble_eq_true rfl) fun C hdm hT0 => ?_
 have hT := hT0
 refine AC_seq fun K1 hK1 => ?_
 refine AC_region ?_
 refine AL_alloc zo139 _ rfl rfl ?_
 refine AL_ev (Ev_assign) rfl ?_
 refine AL_nil ?_
 refine hK1 _ _ _ ?_
 refine AC_seq fun K2 hK2 => ?_
 refine AC_region ?_
 refine AL_ev (Ev_move) rfl ?_
 refine AL_ev (Ev_move) rfl ?_
 refine AL_ev (Ev_ix_str tstr9 rfl rfl (by omega) (by assumption)) rfl ?_
 refine AL_ev (Ev_assign) rfl ?_
 refine AL_nil ?_
 refine hK2 _ _ _ ?_
 refine AC_seq fun K3 hK3 => ?_
 refine AC_region ?_
 refine AL_ev (Ev_move) rfl ?_
 refine AL_ev (Ev_move) rfl ?_
 refine AL_ev (Ev_move) rfl ?_
 refine AL_ev (Ev_add rfl rfl _ (wrap_id (by omega) (by omega))) rfl ?_
 refine AL_ev (Ev_slice_str tstr9 rfl rfl rfl (by omega) (by omega) (by omega)) rfl ?_
 refine AL_ev (Ev_move) rfl ?_
 refine AL_ev (Ev_buildD (fs := [.one, .one, .one, .one, .one]) (zs := [.c (.int .i64 0), .c (.string ⟨#[]⟩), .c (.int .i64 0), .c (.int .i64 0), .c (.bool false)]) tz139 rfl tpl139 (.cons rfl rfl (by rfl) (.cons rfl rfl (by rfl) (.cons rfl rfl (by rfl) .nil))) rfl) rfl ?_
 refine AL_alloc zo139 _ rfl rfl ?_
 refine AL_store rfl (nf rfl) rfl rfl rfl rfl rfl rfl (by rfl) ts139 rfl rfl ?_
 refine AL_nil ?_
 refine hK3 _ _ _ ?_
 refine AC_seq fun K4 hK4 => ?_
 refine AC_region ?_
 refine AL_ev (Ev_move) rfl ?_
 refine AL_ev (Ev_add rfl rfl _ (wrap_id (by omega) (by omega))) rfl ?_
 refine AL_ev (Ev_assign) rfl ?_
 refine AL_nil ?_
 refine hK4 _ _ _ ?_
 refine AC_seq fun K5 hK5 => ?_
 refine AC_block ?_
 refine AC_seq fun K6 hK6 => ?_
 refine AC_region ?_
 refine AL_ev (Ev_move) rfl ?_
 refine AL_fcall0 hT rfl cl154 (c_small (u.toNat : Int)) rfl rfl ?_
 refine AL_ev (Ev_move) rfl ?_
 refine AL_bool 29 rfl (fun hg1 => ?_) (fun hg1 => ?_)
 ·refine AL_guard_f rfl rfl rfl rfl ?_
  refine AL_guard_f rfl rfl rfl rfl ?_
  refine AL_ev (Ev_pick rfl) rfl ?_
  refine AL_ev (Ev_assign) rfl ?_
  refine AL_nil ?_
  refine hK6 _ _ _ ?_
  refine AC_cond_t rfl ?_
  refine AC_seq fun K7 hK7 => ?_
  refine AC_region ?_
  refine AL_ev (Ev_move) rfl ?_
  refine AL_ev (Ev_move) rfl ?_
  refine AL_fcall0 hT rfl cl156 (c_run t i hs (by omega)) rfl rfl ?_
  refine AL_ev (Ev_assign) rfl ?_
  refine AL_nil ?_
  refine hK7 _ _ _ ?_
  refine AC_seq fun K8 hK8 => ?_
  refine AC_region ?_
  refine AL_ev (Ev_move) rfl ?_
  refine AL_ev (Ev_move) rfl ?_
  refine AL_ev (Ev_sub rfl rfl _ (wrap_id (by omega) (by omega))) rfl ?_
  refine AL_ev (Ev_leq rfl rfl) rfl ?_
  refine AL_nil ?_
  refine hK8 _ _ _ ?_
  refine AC_cond rfl (fun hc2 => ?_) (fun hc2 => ?_)
  ·have hn9 : runL wordB ((bts t).drop i) ≤ 20 := by have := of_decide_eq_true hc2; omega
   refine AC_seq fun K9 hK9 => ?_
   refine AC_region ?_
   refine AL_ev (Ev_fa_ptr rfl fa139_0 rfl rfl) rfl ?_
   refine AL_store rfl (nf rfl) rfl rfl rfl rfl rfl rfl (by rfl) ts3 rfl rfl ?_
   refine AL_nil ?_
   refine hK9 _ _ _ ?_
   refine AC_seq fun K10 hK10 => ?_
   refine AC_seq fun K11 hK11 => ?_
   refine AC_region ?_
   refine AL_ev (Ev_move) rfl ?_
   refine AL_fcall0 hT rfl cl155 (c_great (u.toNat : Int)) rfl rfl ?_
   refine AL_nil ?_
   refine hK11 _ _ _ ?_
   refine AC_cond rfl (fun hc3 => ?_) (fun hc3 => ?_)
   ·refine AC_region ?_
    refine AL_ev (Ev_fa_ptr rfl fa139_0 rfl rfl) rfl ?_
    refine AL_store rfl (nf rfl) rfl rfl rfl rfl rfl rfl (by rfl) ts3 rfl rfl ?_
    refine AL_nil ?_
    refine hK10 _ _ _ ?_
    refine AC_seq fun K12 hK12 => ?_
    refine AC_region ?_
    refine AL_ev (Ev_move) rfl ?_
    refine AL_ev (Ev_move) rfl ?_
    refine AL_ev (Ev_move) rfl ?_
    refine AL_ev (Ev_slice_str tstr9 rfl rfl rfl (by omega) (by omega) (by omega)) rfl ?_
    refine AL_ev (Ev_fa_ptr rfl fa139_1 rfl rfl) rfl ?_
    refine AL_store rfl (nf rfl) rfl rfl rfl rfl rfl rfl (by rfl) ts9 rfl rfl ?_
    refine AL_nil ?_
    refine hK12 _ _ _ ?_
    refine AC_region ?_
    refine AL_ev (Ev_move) rfl ?_
    refine AL_ev (Ev_assign) rfl ?_
    refine AL_nil ?_
    refine hK5 _ _ _ ?_
    refine AC_seq fun K13 hK13 => ?_
    refine AC_region ?_
    refine AL_ev (Ev_load_ptr rfl rfl rfl rfl rfl rfl ts139 ta139 (by rfl) (by intro h; cases h)) rfl ?_
    refine AL_ev (Ev_move) rfl ?_
    refine AL_store rfl (nf rfl) rfl rfl rfl rfl rfl rfl (by rfl) ts139 rfl rfl ?_
    refine AL_ev (Ev_assign) rfl ?_
    refine AL_nil ?_
    refine hK13 _ _ _ ?_
    refine AC_ret ?_
    exact ret_ok hdm (.cell rfl rfl rfl rfl rfl rfl ts139 ta139 (by rfl) (by intro h; cases h) (.tmp rfl rfl .nil)) (.cons (by exact .agg (.cons .d (.cons .d (.cons .d (.cons .d (.cons .d .nil)))))) (.cons .d .nil)) (sign_ret (x := ⟨2, t.extract i (i + runL wordB ((bts t).drop i)), 0, i, false⟩) (n := i + runL wordB ((bts t).drop i)) (by rw [signM_w hub (.inl hg1) hn9, if_pos hc3]))
   ·refine AC_skip ?_
    refine hK10 _ _ _ ?_
    refine AC_seq fun K14 hK14 => ?_
    refine AC_region ?_
    refine AL_ev (Ev_move) rfl ?_
    refine AL_ev (Ev_move) rfl ?_
    refine AL_ev (Ev_move) rfl ?_
    refine AL_ev (Ev_slice_str tstr9 rfl rfl rfl (by omega) (by omega) (by omega)) rfl ?_
    refine AL_ev (Ev_fa_ptr rfl fa139_1 rfl rfl) rfl ?_
    refine AL_store rfl (nf rfl) rfl rfl rfl rfl rfl rfl (by rfl) ts9 rfl rfl ?_
    refine AL_nil ?_
    refine hK14 _ _ _ ?_
    refine AC_region ?_
    refine AL_ev (Ev_move) rfl ?_
    refine AL_ev (Ev_assign) rfl ?_
    refine AL_nil ?_
    refine hK5 _ _ _ ?_
    refine AC_seq fun K15 hK15 => ?_
    refine AC_region ?_
    refine AL_ev (Ev_load_ptr rfl rfl rfl rfl rfl rfl ts139 ta139 (by rfl) (by intro h; cases h)) rfl ?_
    refine AL_ev (Ev_move) rfl ?_
    refine AL_store rfl (nf rfl) rfl rfl rfl rfl rfl rfl (by rfl) ts139 rfl rfl ?_
    refine AL_ev (Ev_assign) rfl ?_
    refine AL_nil ?_
    refine hK15 _ _ _ ?_
    refine AC_ret ?_
    exact ret_ok hdm (.cell rfl rfl rfl rfl rfl rfl ts139 ta139 (by rfl) (by intro h; cases h) (.tmp rfl rfl .nil)) (.cons (by exact .agg (.cons .d (.cons .d (.cons .d (.cons .d (.cons .d .nil)))))) (.cons .d .nil)) (sign_ret (x := ⟨1, t.extract i (i + runL wordB ((bts t).drop i)), 0, i, false⟩) (n := i + runL wordB ((bts t).drop i)) (by rw [signM_w hub (.inl hg1) hn9, if_neg (by rw [hc3]; decide)]))
  ·have hn9 : ¬ runL wordB ((bts t).drop i) ≤ 20 := by have := of_decide_eq_false hc2; omega
   refine AC_skip ?_
   refine hK5 _ _ _ ?_
   refine AC_seq fun K16 hK16 => ?_
   refine AC_region ?_
   refine AL_ev (Ev_load_ptr rfl rfl rfl rfl rfl rfl ts139 ta139 (by rfl) (by intro h; cases h)) rfl ?_
   refine AL_ev (Ev_move) rfl ?_
   refine AL_store rfl (nf rfl) rfl rfl rfl rfl rfl rfl (by rfl) ts139 rfl rfl ?_
   refine AL_ev (Ev_assign) rfl ?_
   refine AL_nil ?_
   refine hK16 _ _ _ ?_
   refine AC_ret ?_
   exact ret_ok hdm (.cell rfl rfl rfl rfl rfl rfl ts139 ta139 (by rfl) (by intro h; cases h) (.tmp rfl rfl .nil)) (.cons (by exact .d) (.cons .d .nil)) (sign_ret (signM_w0 hub (.inl hg1) hn9))
 ·refine AL_guard_t rfl rfl rfl ?_
  refine AL_ev (Ev_move) rfl ?_
  refine AL_guard_t rfl rfl rfl ?_
  refine AL_fcall0 hT rfl cl155 (c_great (u.toNat : Int)) rfl rfl ?_
  refine AL_ev (Ev_pick rfl) rfl ?_
  refine AL_ev (Ev_assign) rfl ?_
  refine AL_nil ?_
  refine hK6 _ _ _ ?_
  refine AC_cond rfl (fun hc4 => ?_) (fun hc4 => ?_)
  ·refine AC_seq fun K17 hK17 => ?_
   refine AC_region ?_
   refine AL_ev (Ev_move) rfl ?_
   refine AL_ev (Ev_move) rfl ?_
   refine AL_fcall0 hT rfl cl156 (c_run t i hs (by omega)) rfl rfl ?_
   refine AL_ev (Ev_assign) rfl ?_
   refine AL_nil ?_
   refine hK17 _ _ _ ?_
   refine AC_seq fun K18 hK18 => ?_
   refine AC_region ?_
   refine AL_ev (Ev_move) rfl ?_
   refine AL_ev (Ev_move) rfl ?_
   refine AL_ev (Ev_sub rfl rfl _ (wrap_id (by omega) (by omega))) rfl ?_
   refine AL_ev (Ev_leq rfl rfl) rfl ?_
   refine AL_nil ?_
   refine hK18 _ _ _ ?_
   refine AC_cond rfl (fun hc5 => ?_) (fun hc5 => ?_)
   ·have hn9 : runL wordB ((bts t).drop i) ≤ 20 := by have := of_decide_eq_true hc5; omega
    refine AC_seq fun K19 hK19 => ?_
    refine AC_region ?_
    refine AL_ev (Ev_fa_ptr rfl fa139_0 rfl rfl) rfl ?_
    refine AL_store rfl (nf rfl) rfl rfl rfl rfl rfl rfl (by rfl) ts3 rfl rfl ?_
    refine AL_nil ?_
    refine hK19 _ _ _ ?_
    refine AC_seq fun K20 hK20 => ?_
    refine AC_seq fun K21 hK21 => ?_
    refine AC_region ?_
    refine AL_ev (Ev_move) rfl ?_
    refine AL_fcall0 hT rfl cl155 (c_great (u.toNat : Int)) rfl rfl ?_
    refine AL_nil ?_
    refine hK21 _ _ _ ?_
    refine AC_cond rfl (fun hc6 => ?_) (fun hc6 => ?_)
    ·refine AC_region ?_
     refine AL_ev (Ev_fa_ptr rfl fa139_0 rfl rfl) rfl ?_
     refine AL_store rfl (nf rfl) rfl rfl rfl rfl rfl rfl (by rfl) ts3 rfl rfl ?_
     refine AL_nil ?_
     refine hK20 _ _ _ ?_
     refine AC_seq fun K22 hK22 => ?_
     refine AC_region ?_
     refine AL_ev (Ev_move) rfl ?_
     refine AL_ev (Ev_move) rfl ?_
     refine AL_ev (Ev_move) rfl ?_
     refine AL_ev (Ev_slice_str tstr9 rfl rfl rfl (by omega) (by omega) (by omega)) rfl ?_
     refine AL_ev (Ev_fa_ptr rfl fa139_1 rfl rfl) rfl ?_
     refine AL_store rfl (nf rfl) rfl rfl rfl rfl rfl rfl (by rfl) ts9 rfl rfl ?_
     refine AL_nil ?_
     refine hK22 _ _ _ ?_
     refine AC_region ?_
     refine AL_ev (Ev_move) rfl ?_
     refine AL_ev (Ev_assign) rfl ?_
     refine AL_nil ?_
     refine hK5 _ _ _ ?_
     refine AC_seq fun K23 hK23 => ?_
     refine AC_region ?_
     refine AL_ev (Ev_load_ptr rfl rfl rfl rfl rfl rfl ts139 ta139 (by rfl) (by intro h; cases h)) rfl ?_
     refine AL_ev (Ev_move) rfl ?_
     refine AL_store rfl (nf rfl) rfl rfl rfl rfl rfl rfl (by rfl) ts139 rfl rfl ?_
     refine AL_ev (Ev_assign) rfl ?_
     refine AL_nil ?_
     refine hK23 _ _ _ ?_
     refine AC_ret ?_
     exact ret_ok hdm (.cell rfl rfl rfl rfl rfl rfl ts139 ta139 (by rfl) (by intro h; cases h) (.tmp rfl rfl .nil)) (.cons (by exact .agg (.cons .d (.cons .d (.cons .d (.cons .d (.cons .d .nil)))))) (.cons .d .nil)) (sign_ret (x := ⟨2, t.extract i (i + runL wordB ((bts t).drop i)), 0, i, false⟩) (n := i + runL wordB ((bts t).drop i)) (by rw [signM_w hub (.inr hc4) hn9, if_pos hc4]))
    ·refine AC_skip ?_
     refine hK20 _ _ _ ?_
     refine AC_seq fun K24 hK24 => ?_
     refine AC_region ?_
     refine AL_ev (Ev_move) rfl ?_
     refine AL_ev (Ev_move) rfl ?_
     refine AL_ev (Ev_move) rfl ?_
     refine AL_ev (Ev_slice_str tstr9 rfl rfl rfl (by omega) (by omega) (by omega)) rfl ?_
     refine AL_ev (Ev_fa_ptr rfl fa139_1 rfl rfl) rfl ?_
     refine AL_store rfl (nf rfl) rfl rfl rfl rfl rfl rfl (by rfl) ts9 rfl rfl ?_
     refine AL_nil ?_
     refine hK24 _ _ _ ?_
     refine AC_region ?_
     refine AL_ev (Ev_move) rfl ?_
     refine AL_ev (Ev_assign) rfl ?_
     refine AL_nil ?_
     refine hK5 _ _ _ ?_
     refine AC_seq fun K25 hK25 => ?_
     refine AC_region ?_
     refine AL_ev (Ev_load_ptr rfl rfl rfl rfl rfl rfl ts139 ta139 (by rfl) (by intro h; cases h)) rfl ?_
     refine AL_ev (Ev_move) rfl ?_
     refine AL_store rfl (nf rfl) rfl rfl rfl rfl rfl rfl (by rfl) ts139 rfl rfl ?_
     refine AL_ev (Ev_assign) rfl ?_
     refine AL_nil ?_
     refine hK25 _ _ _ ?_
     refine AC_ret ?_
     rw [hc4] at hc6; cases hc6
   ·have hn9 : ¬ runL wordB ((bts t).drop i) ≤ 20 := by have := of_decide_eq_false hc5; omega
    refine AC_skip ?_
    refine hK5 _ _ _ ?_
    refine AC_seq fun K26 hK26 => ?_
    refine AC_region ?_
    refine AL_ev (Ev_load_ptr rfl rfl rfl rfl rfl rfl ts139 ta139 (by rfl) (by intro h; cases h)) rfl ?_
    refine AL_ev (Ev_move) rfl ?_
    refine AL_store rfl (nf rfl) rfl rfl rfl rfl rfl rfl (by rfl) ts139 rfl rfl ?_
    refine AL_ev (Ev_assign) rfl ?_
    refine AL_nil ?_
    refine hK26 _ _ _ ?_
    refine AC_ret ?_
    exact ret_ok hdm (.cell rfl rfl rfl rfl rfl rfl ts139 ta139 (by rfl) (by intro h; cases h) (.tmp rfl rfl .nil)) (.cons (by exact .d) (.cons .d .nil)) (sign_ret (signM_w0 hub (.inr hc4) hn9))
  ·refine AC_seq fun K27 hK27 => ?_
   refine AC_region ?_
   refine AL_ev (Ev_move) rfl ?_
   refine AL_fcall0 hT rfl cl157 (c_fig (u.toNat : Int)) rfl rfl ?_
   refine AL_ev (Ev_assign) rfl ?_
   refine AL_nil ?_
   refine hK27 _ _ _ ?_
   refine AC_cond rfl (fun hc7 => ?_) (fun hc7 => ?_)
   ·refine AC_seq fun K28 hK28 => ?_
    refine AC_region ?_
    refine AL_ev (Ev_move) rfl ?_
    refine AL_ev (Ev_assign) rfl ?_
    refine AL_nil ?_
    refine hK28 _ _ _ ?_
    refine AC_seq fun K29 hK29 => ?_
    refine AC_region ?_
    refine AL_ev (Ev_assign) rfl ?_
    refine AL_nil ?_
    refine hK29 _ _ _ ?_
    refine AC_seq fun K30 hK30 => ?_
    refine AC_block ?_
    refine AC_loopS [0, 1, 4, 7, 8] (Nat × Int) (fun q => [(10, i64 ((q.1 : Nat) : Int)), (11, i64 q.2)]) (fun q => [some ⟨139, LSG, [.d (injG sg0)]⟩, some ⟨139, LSG, [.d (injG ⟨6, t.extract i (i + 1), 0, i, false⟩)]⟩]) (fun q => t.size - q.1) (fun q => i ≤ q.1 ∧ q.1 ≤ t.size ∧ 0 ≤ q.2 ∧ q.2 ≤ 99999999999 ∧ figL ((bts t).drop i) 0 i = figL ((bts t).drop q.1) q.2 q.1) ((i, 0)) ?_ ?_ ?_
    ·exact enterS [some 0, some 1] rfl rfl (BxTo_some rfl rfl rfl rfl (.cons (.rd .d) .nil) (BxTo_some rfl rfl rfl rfl (.cons (.rd .d) .nil) BxTo_nil)) (SlTo_cons (by exact .rd .d) (SlTo_cons (by exact .rd .d) (SlTo_cons (by exact .rd .d) (SlTo_cons (by exact .rd .d) (SlTo_cons (by exact .ptr rfl) (SlTo_cons (by exact .ptr rfl) (SlTo_cons (by exact .rd .d) SlTo_nil)))))))
    ·exact ⟨Nat.le_refl _, by show i ≤ t.size; omega, Int.le_refl _, by show (0 : Int) ≤ 99999999999; omega, rfl⟩
    rintro ⟨j, m⟩ ⟨hj0, hj1, hm0, hm1, hI⟩
    simp only at hj0 hj1 hm0 hm1 hI
    refine AC_seq fun K31 hK31 => ?_
    refine AC_seq fun K32 hK32 => ?_
    refine AC_region ?_
    refine AL_ev (Ev_move) rfl ?_
    refine AL_ev (Ev_move) rfl ?_
    refine AL_ev (Ev_len_str tstr9 rfl) rfl ?_
    refine AL_ev (Ev_lss rfl rfl) rfl ?_
    refine AL_ev (Ev_move) rfl ?_
    refine AL_bool 58 rfl (fun hg8 => ?_) (fun hg8 => ?_)
    ·have hjl : j < t.size := by have := of_decide_eq_true hg8; omega
     have hjbv : j < (bts t).length := by rw [bts_len]; omega
     refine Exists.elim (show ∃ v, (bts t)[j]? = some v from ⟨_, List.getElem?_eq_getElem hjbv⟩) fun v hv => ?_
     have hv2 := bts_get hv
     have hvb := UInt8.toNat_lt v
     have hdr := drop_get hv
     refine AL_guard_t rfl rfl rfl ?_
     refine AL_ev (Ev_move) rfl ?_
     refine AL_guard_t rfl rfl rfl ?_
     refine AL_ev (Ev_move) rfl ?_
     refine AL_guard_t rfl rfl rfl ?_
     refine AL_ev (Ev_ix_str tstr9 rfl rfl (by omega) (by assumption)) rfl ?_
     refine AL_guard_t rfl rfl rfl ?_
     refine AL_fcall0 hT rfl cl157 (c_fig (v.toNat : Int)) rfl rfl ?_
     refine AL_ev (Ev_pick rfl) rfl ?_
     refine AL_ev (Ev_move) rfl ?_
     refine AL_bool 64 rfl (fun hg9 => ?_) (fun hg9 => ?_)
     ·have hf9 : 48 ≤ (v.toNat : Int) ∧ (v.toNat : Int) ≤ 57 := by have h := hg9; simp only [figB, Bool.and_eq_true, decide_eq_true_eq] at h; exact h
      refine AL_guard_t rfl rfl rfl ?_
      refine AL_ev (Ev_move) rfl ?_
      refine AL_guard_t rfl rfl rfl ?_
      refine AL_ev (Ev_leq rfl rfl) rfl ?_
      refine AL_ev (Ev_pick rfl) rfl ?_
      refine AL_nil ?_
      refine hK32 _ _ _ ?_
      refine AC_cond rfl (fun hc10 => ?_) (fun hc10 => ?_)
      ·have hm9 : m ≤ 999999999 := of_decide_eq_true hc10
       refine AC_skip ?_
       refine hK31 _ _ _ ?_
       refine AC_block ?_
       refine AC_seq fun K33 hK33 => ?_
       refine AC_region ?_
       refine AL_ev (Ev_move) rfl ?_
       refine AL_ev (Ev_mul rfl rfl _ (wrap_id (by omega) (by omega))) rfl ?_
       refine AL_ev (Ev_move) rfl ?_
       refine AL_ev (Ev_move) rfl ?_
       refine AL_ev (Ev_ix_str tstr9 rfl rfl (by omega) (by assumption)) rfl ?_
       refine AL_ev (Ev_conv_int tund5 tint3 rfl _ (wrap_id (by omega) (by omega))) rfl ?_
       refine AL_ev (Ev_add rfl rfl _ (wrap_id (by omega) (by omega))) rfl ?_
       refine AL_ev (Ev_sub rfl rfl _ (wrap_id (by omega) (by omega))) rfl ?_
       refine AL_ev (Ev_assign) rfl ?_
       refine AL_nil ?_
       refine hK33 _ _ _ ?_
       refine AC_region ?_
       refine AL_ev (Ev_move) rfl ?_
       refine AL_ev (Ev_add rfl rfl _ (wrap_id (by omega) (by omega))) rfl ?_
       refine AL_ev (Ev_assign) rfl ?_
       refine AL_nil ?_
       refine closeS (j + 1, 10 * m + (v.toNat : Int) - 48) [some 0, some 1] rfl rfl (by show t.size - (j + 1) < t.size - j; omega) ⟨by show i ≤ j + 1; omega, by show j + 1 ≤ t.size; omega, by show 0 ≤ 10 * m + (v.toNat : Int) - 48; omega, by show 10 * m + (v.toNat : Int) - 48 ≤ 99999999999; omega, by show _ = figL _ (10 * m + (v.toNat : Int) - 48) (j + 1); rw [hI, hdr]; simp_all [figL]⟩ (BxTo_some rfl rfl rfl rfl (.cons (.rd .d) .nil) (BxTo_some rfl rfl rfl rfl (.cons (.rd .d) .nil) BxTo_nil)) (SlTo_cons (Vw_int (by rfl)) (SlTo_cons (Vw_int (by rfl)) (SlTo_cons (by exact .rd .d) (SlTo_cons (by exact .rd .d) (SlTo_cons (by exact .ptr rfl) (SlTo_cons (by exact .ptr rfl) (SlTo_cons (by exact .rd .d) SlTo_nil)))))))
      ·have hm9 : ¬ m ≤ 999999999 := of_decide_eq_false hc10
       have hI2 : figL ((bts t).drop i) 0 i = (m, j) := by rw [hI, hdr, figL, if_neg (fun h => hm9 h.2)]
       refine AC_exit ?_
       refine hK30 _ _ _ ?_
       refine AC_seq fun K34 hK34 => ?_
       refine AC_region ?_
       refine AL_ev (Ev_move) rfl ?_
       refine AL_ev (Ev_leq rfl rfl) rfl ?_
       refine AL_nil ?_
       refine hK34 _ _ _ ?_
       refine AC_cond rfl (fun hc11 => ?_) (fun hc11 => ?_)
       ·refine AC_seq fun K35 hK35 => ?_
        refine AC_region ?_
        refine AL_ev (Ev_move) rfl ?_
        refine AL_ev (Ev_move) rfl ?_
        refine AL_ev (Ev_buildD (fs := [.one, .one, .one, .one, .one]) (zs := [.c (.int .i64 0), .c (.string ⟨#[]⟩), .c (.int .i64 0), .c (.int .i64 0), .c (.bool false)]) tz139 rfl tpl139 (.cons rfl rfl (by rfl) (.cons rfl rfl (by rfl) (.cons rfl rfl (by rfl) .nil))) rfl) rfl ?_
        refine AL_ev (Ev_move) rfl ?_
        refine AL_store rfl (nf rfl) rfl rfl rfl rfl rfl rfl (by rfl) ts139 rfl rfl ?_
        refine AL_ev (Ev_assign) rfl ?_
        refine AL_nil ?_
        refine hK35 _ _ _ ?_
        refine AC_ret ?_
        have H1 : ¬ (smallB (u.toNat : Int) = true ∨ greatB (u.toNat : Int) = true) := by rintro (h | h); rw [hg1] at h; cases h; rw [hc4] at h; cases h
        exact ret_ok hdm (.cell rfl rfl rfl rfl rfl rfl ts139 ta139 (by rfl) (by intro h; cases h) (.tmp rfl rfl .nil)) (.cons (by exact .d) (.cons .d .nil)) (sign_ret (signM_f hub H1 hc7 hI2 (of_decide_eq_true hc11)))
       ·refine AC_skip ?_
        refine hK5 _ _ _ ?_
        refine AC_seq fun K36 hK36 => ?_
        refine AC_region ?_
        refine AL_ev (Ev_load_ptr rfl rfl rfl rfl rfl rfl ts139 ta139 (by rfl) (by intro h; cases h)) rfl ?_
        refine AL_ev (Ev_move) rfl ?_
        refine AL_store rfl (nf rfl) rfl rfl rfl rfl rfl rfl (by rfl) ts139 rfl rfl ?_
        refine AL_ev (Ev_assign) rfl ?_
        refine AL_nil ?_
        refine hK36 _ _ _ ?_
        refine AC_ret ?_
        have H1 : ¬ (smallB (u.toNat : Int) = true ∨ greatB (u.toNat : Int) = true) := by rintro (h | h); rw [hg1] at h; cases h; rw [hc4] at h; cases h
        exact ret_ok hdm (.cell rfl rfl rfl rfl rfl rfl ts139 ta139 (by rfl) (by intro h; cases h) (.tmp rfl rfl .nil)) (.cons (by exact .d) (.cons .d .nil)) (sign_ret (signM_f0 hub H1 hc7 hI2 (of_decide_eq_false hc11)))
     ·have hI2 : figL ((bts t).drop i) 0 i = (m, j) := by rw [hI, hdr]; simp_all [figL]
      refine AL_guard_f rfl rfl rfl rfl ?_
      refine AL_guard_f rfl rfl rfl rfl ?_
      refine AL_ev (Ev_pick rfl) rfl ?_
      refine AL_nil ?_
      refine hK32 _ _ _ ?_
      refine AC_cond_f rfl ?_
      refine AC_exit ?_
      refine hK30 _ _ _ ?_
      refine AC_seq fun K37 hK37 => ?_
      refine AC_region ?_
      refine AL_ev (Ev_move) rfl ?_
      refine AL_ev (Ev_leq rfl rfl) rfl ?_
      refine AL_nil ?_
      refine hK37 _ _ _ ?_
      refine AC_cond rfl (fun hc12 => ?_) (fun hc12 => ?_)
      ·refine AC_seq fun K38 hK38 => ?_
       refine AC_region ?_
       refine AL_ev (Ev_move) rfl ?_
       refine AL_ev (Ev_move) rfl ?_
       refine AL_ev (Ev_buildD (fs := [.one, .one, .one, .one, .one]) (zs := [.c (.int .i64 0), .c (.string ⟨#[]⟩), .c (.int .i64 0), .c (.int .i64 0), .c (.bool false)]) tz139 rfl tpl139 (.cons rfl rfl (by rfl) (.cons rfl rfl (by rfl) (.cons rfl rfl (by rfl) .nil))) rfl) rfl ?_
       refine AL_ev (Ev_move) rfl ?_
       refine AL_store rfl (nf rfl) rfl rfl rfl rfl rfl rfl (by rfl) ts139 rfl rfl ?_
       refine AL_ev (Ev_assign) rfl ?_
       refine AL_nil ?_
       refine hK38 _ _ _ ?_
       refine AC_ret ?_
       have H1 : ¬ (smallB (u.toNat : Int) = true ∨ greatB (u.toNat : Int) = true) := by rintro (h | h); rw [hg1] at h; cases h; rw [hc4] at h; cases h
       exact ret_ok hdm (.cell rfl rfl rfl rfl rfl rfl ts139 ta139 (by rfl) (by intro h; cases h) (.tmp rfl rfl .nil)) (.cons (by exact .d) (.cons .d .nil)) (sign_ret (signM_f hub H1 hc7 hI2 (of_decide_eq_true hc12)))
      ·refine AC_skip ?_
       refine hK5 _ _ _ ?_
       refine AC_seq fun K39 hK39 => ?_
       refine AC_region ?_
       refine AL_ev (Ev_load_ptr rfl rfl rfl rfl rfl rfl ts139 ta139 (by rfl) (by intro h; cases h)) rfl ?_
       refine AL_ev (Ev_move) rfl ?_
       refine AL_store rfl (nf rfl) rfl rfl rfl rfl rfl rfl (by rfl) ts139 rfl rfl ?_
       refine AL_ev (Ev_assign) rfl ?_
       refine AL_nil ?_
       refine hK39 _ _ _ ?_
       refine AC_ret ?_
       have H1 : ¬ (smallB (u.toNat : Int) = true ∨ greatB (u.toNat : Int) = true) := by rintro (h | h); rw [hg1] at h; cases h; rw [hc4] at h; cases h
       exact ret_ok hdm (.cell rfl rfl rfl rfl rfl rfl ts139 ta139 (by rfl) (by intro h; cases h) (.tmp rfl rfl .nil)) (.cons (by exact .d) (.cons .d .nil)) (sign_ret (signM_f0 hub H1 hc7 hI2 (of_decide_eq_false hc12)))
    ·have hge : t.size ≤ j := by have := of_decide_eq_false hg8; omega
     have hI2 : figL ((bts t).drop i) 0 i = (m, j) := by rw [hI, List.drop_eq_nil_of_le (by simp; omega)]; rfl
     refine AL_guard_f rfl rfl rfl rfl ?_
     refine AL_guard_f rfl rfl rfl rfl ?_
     refine AL_guard_f rfl rfl rfl rfl ?_
     refine AL_guard_f rfl rfl rfl rfl ?_
     refine AL_ev (Ev_pick rfl) rfl ?_
     refine AL_ev (Ev_move) rfl ?_
     refine AL_guard_f rfl rfl rfl rfl ?_
     refine AL_guard_f rfl rfl rfl rfl ?_
     refine AL_ev (Ev_pick rfl) rfl ?_
     refine AL_nil ?_
     refine hK32 _ _ _ ?_
     refine AC_cond_f rfl ?_
     refine AC_exit ?_
     refine hK30 _ _ _ ?_
     refine AC_seq fun K40 hK40 => ?_
     refine AC_region ?_
     refine AL_ev (Ev_move) rfl ?_
     refine AL_ev (Ev_leq rfl rfl) rfl ?_
     refine AL_nil ?_
     refine hK40 _ _ _ ?_
     refine AC_cond rfl (fun hc13 => ?_) (fun hc13 => ?_)
     ·refine AC_seq fun K41 hK41 => ?_
      refine AC_region ?_
      refine AL_ev (Ev_move) rfl ?_
      refine AL_ev (Ev_move) rfl ?_
      refine AL_ev (Ev_buildD (fs := [.one, .one, .one, .one, .one]) (zs := [.c (.int .i64 0), .c (.string ⟨#[]⟩), .c (.int .i64 0), .c (.int .i64 0), .c (.bool false)]) tz139 rfl tpl139 (.cons rfl rfl (by rfl) (.cons rfl rfl (by rfl) (.cons rfl rfl (by rfl) .nil))) rfl) rfl ?_
      refine AL_ev (Ev_move) rfl ?_
      refine AL_store rfl (nf rfl) rfl rfl rfl rfl rfl rfl (by rfl) ts139 rfl rfl ?_
      refine AL_ev (Ev_assign) rfl ?_
      refine AL_nil ?_
      refine hK41 _ _ _ ?_
      refine AC_ret ?_
      have H1 : ¬ (smallB (u.toNat : Int) = true ∨ greatB (u.toNat : Int) = true) := by rintro (h | h); rw [hg1] at h; cases h; rw [hc4] at h; cases h
      exact ret_ok hdm (.cell rfl rfl rfl rfl rfl rfl ts139 ta139 (by rfl) (by intro h; cases h) (.tmp rfl rfl .nil)) (.cons (by exact .d) (.cons .d .nil)) (sign_ret (signM_f hub H1 hc7 hI2 (of_decide_eq_true hc13)))
     ·refine AC_skip ?_
      refine hK5 _ _ _ ?_
      refine AC_seq fun K42 hK42 => ?_
      refine AC_region ?_
      refine AL_ev (Ev_load_ptr rfl rfl rfl rfl rfl rfl ts139 ta139 (by rfl) (by intro h; cases h)) rfl ?_
      refine AL_ev (Ev_move) rfl ?_
      refine AL_store rfl (nf rfl) rfl rfl rfl rfl rfl rfl (by rfl) ts139 rfl rfl ?_
      refine AL_ev (Ev_assign) rfl ?_
      refine AL_nil ?_
      refine hK42 _ _ _ ?_
      refine AC_ret ?_
      have H1 : ¬ (smallB (u.toNat : Int) = true ∨ greatB (u.toNat : Int) = true) := by rintro (h | h); rw [hg1] at h; cases h; rw [hc4] at h; cases h
      exact ret_ok hdm (.cell rfl rfl rfl rfl rfl rfl ts139 ta139 (by rfl) (by intro h; cases h) (.tmp rfl rfl .nil)) (.cons (by exact .d) (.cons .d .nil)) (sign_ret (signM_f0 hub H1 hc7 hI2 (of_decide_eq_false hc13)))
   ·refine AC_seq fun K43 hK43 => ?_
    refine AC_region ?_
    refine AL_ev (Ev_move) rfl ?_
    refine AL_ev (Ev_eql rfl rfl) rfl ?_
    refine AL_ev (Ev_assign) rfl ?_
    refine AL_nil ?_
    refine hK43 _ _ _ ?_
    refine AC_cond rfl (fun hc14 => ?_) (fun hc14 => ?_)
    ·refine AC_seq fun K44 hK44 => ?_
     refine AC_region ?_
     refine AL_ev (Ev_move) rfl ?_
     refine AL_ev (Ev_move) rfl ?_
     refine AL_fcall0 hT rfl cl158 (c_quoted t i hs hlt) rfl rfl ?_
     refine AL_ev (Ev_assign) rfl ?_
     refine AL_nil ?_
     refine hK44 _ _ _ ?_
     refine AC_seq fun K45 hK45 => ?_
     refine AC_region ?_
     refine AL_ev (Ev_move) rfl ?_
     refine AL_ev (Ev_gtr rfl rfl) rfl ?_
     refine AL_nil ?_
     refine hK45 _ _ _ ?_
     refine AC_cond rfl (fun hc15 => ?_) (fun hc15 => ?_)
     ·have hq0 : 0 < quoM t i := by have := of_decide_eq_true hc15; omega
      have hqe : (((quoM t i : Nat) : Int) - 1).toNat = quoM t i - 1 := by omega
      refine AC_seq fun K46 hK46 => ?_
      refine AC_region ?_
      refine AL_ev (Ev_move) rfl ?_
      refine AL_ev (Ev_move) rfl ?_
      refine AL_ev (Ev_add rfl rfl _ (wrap_id (by omega) (by omega))) rfl ?_
      refine AL_ev (Ev_move) rfl ?_
      refine AL_ev (Ev_sub rfl rfl _ (wrap_id (by omega) (by omega))) rfl ?_
      refine AL_ev (Ev_slice_str tstr9 rfl rfl rfl (by omega) (by omega) (by omega)) rfl ?_
      refine AL_ev (Ev_move) rfl ?_
      refine AL_ev (Ev_buildD (fs := [.one, .one, .one, .one, .one]) (zs := [.c (.int .i64 0), .c (.string ⟨#[]⟩), .c (.int .i64 0), .c (.int .i64 0), .c (.bool false)]) tz139 rfl tpl139 (.cons rfl rfl (by rfl) (.cons rfl rfl (by rfl) (.cons rfl rfl (by rfl) .nil))) rfl) rfl ?_
      refine AL_store rfl (nf rfl) rfl rfl rfl rfl rfl rfl (by rfl) ts139 rfl rfl ?_
      refine AL_nil ?_
      refine hK46 _ _ _ ?_
      refine AC_region ?_
      refine AL_ev (Ev_move) rfl ?_
      refine AL_ev (Ev_assign) rfl ?_
      refine AL_nil ?_
      refine hK5 _ _ _ ?_
      refine AC_seq fun K47 hK47 => ?_
      refine AC_region ?_
      refine AL_ev (Ev_load_ptr rfl rfl rfl rfl rfl rfl ts139 ta139 (by rfl) (by intro h; cases h)) rfl ?_
      refine AL_ev (Ev_move) rfl ?_
      refine AL_store rfl (nf rfl) rfl rfl rfl rfl rfl rfl (by rfl) ts139 rfl rfl ?_
      refine AL_ev (Ev_assign) rfl ?_
      refine AL_nil ?_
      refine hK47 _ _ _ ?_
      refine AC_ret ?_
      have H1 : ¬ (smallB (u.toNat : Int) = true ∨ greatB (u.toNat : Int) = true) := by rintro (h | h); rw [hg1] at h; cases h; rw [hc4] at h; cases h
      have H2 : ¬ figB (u.toNat : Int) = true := by rw [hc7]; decide
      exact ret_ok hdm (.cell rfl rfl rfl rfl rfl rfl ts139 ta139 (by rfl) (by intro h; cases h) (.tmp rfl rfl .nil)) (.cons (by exact .d) (.cons .d .nil)) (by have e := sign_ret (signM_q hub H1 H2 (of_decide_eq_true hc14) hq0); rw [← hqe] at e; exact e)
     ·refine AC_skip ?_
      refine hK5 _ _ _ ?_
      refine AC_seq fun K48 hK48 => ?_
      refine AC_region ?_
      refine AL_ev (Ev_load_ptr rfl rfl rfl rfl rfl rfl ts139 ta139 (by rfl) (by intro h; cases h)) rfl ?_
      refine AL_ev (Ev_move) rfl ?_
      refine AL_store rfl (nf rfl) rfl rfl rfl rfl rfl rfl (by rfl) ts139 rfl rfl ?_
      refine AL_ev (Ev_assign) rfl ?_
      refine AL_nil ?_
      refine hK48 _ _ _ ?_
      refine AC_ret ?_
      have H1 : ¬ (smallB (u.toNat : Int) = true ∨ greatB (u.toNat : Int) = true) := by rintro (h | h); rw [hg1] at h; cases h; rw [hc4] at h; cases h
      have H2 : ¬ figB (u.toNat : Int) = true := by rw [hc7]; decide
      exact ret_ok hdm (.cell rfl rfl rfl rfl rfl rfl ts139 ta139 (by rfl) (by intro h; cases h) (.tmp rfl rfl .nil)) (.cons (by exact .d) (.cons .d .nil)) (sign_ret (signM_q0 hub H1 H2 (of_decide_eq_true hc14) (by have := of_decide_eq_false hc15; omega)))
    ·refine AC_seq fun K49 hK49 => ?_
     refine AC_region ?_
     refine AL_ev (Ev_move) rfl ?_
     refine AL_ev (Ev_eql rfl rfl) rfl ?_
     refine AL_ev (Ev_move) rfl ?_
     refine AL_bool 104 rfl (fun hg16 => ?_) (fun hg16 => ?_)
     ·refine AL_guard_f rfl rfl rfl rfl ?_
      refine AL_guard_f rfl rfl rfl rfl ?_
      refine AL_ev (Ev_pick rfl) rfl ?_
      refine AL_ev (Ev_assign) rfl ?_
      refine AL_nil ?_
      refine hK49 _ _ _ ?_
      refine AC_cond_t rfl ?_
      refine AC_region ?_
      refine AL_ev (Ev_fa_ptr rfl fa139_0 rfl rfl) rfl ?_
      refine AL_store rfl (nf rfl) rfl rfl rfl rfl rfl rfl (by rfl) ts3 rfl rfl ?_
      refine AL_nil ?_
      refine hK5 _ _ _ ?_
      refine AC_seq fun K50 hK50 => ?_
      refine AC_region ?_
      refine AL_ev (Ev_load_ptr rfl rfl rfl rfl rfl rfl ts139 ta139 (by rfl) (by intro h; cases h)) rfl ?_
      refine AL_ev (Ev_move) rfl ?_
      refine AL_store rfl (nf rfl) rfl rfl rfl rfl rfl rfl (by rfl) ts139 rfl rfl ?_
      refine AL_ev (Ev_assign) rfl ?_
      refine AL_nil ?_
      refine hK50 _ _ _ ?_
      refine AC_ret ?_
      have H1 : ¬ (smallB (u.toNat : Int) = true ∨ greatB (u.toNat : Int) = true) := by rintro (h | h); rw [hg1] at h; cases h; rw [hc4] at h; cases h
      have H2 : ¬ figB (u.toNat : Int) = true := by rw [hc7]; decide
      have H3 : ¬ (u.toNat : Int) = 39 := of_decide_eq_false hc14
      exact ret_ok hdm (.cell rfl rfl rfl rfl rfl rfl ts139 ta139 (by rfl) (by intro h; cases h) (.tmp rfl rfl .nil)) (.cons (by exact .agg (.cons .d (.cons .d (.cons .d (.cons .d (.cons .d .nil)))))) (.cons .d .nil)) (sign_ret (signM_a hub H1 H2 H3 (.inl (of_decide_eq_true hg16))))
     ·refine AL_guard_t rfl rfl rfl ?_
      refine AL_ev (Ev_move) rfl ?_
      refine AL_guard_t rfl rfl rfl ?_
      refine AL_ev (Ev_eql rfl rfl) rfl ?_
      refine AL_ev (Ev_pick rfl) rfl ?_
      refine AL_ev (Ev_assign) rfl ?_
      refine AL_nil ?_
      refine hK49 _ _ _ ?_
      refine AC_cond rfl (fun hc17 => ?_) (fun hc17 => ?_)
      ·refine AC_region ?_
       refine AL_ev (Ev_fa_ptr rfl fa139_0 rfl rfl) rfl ?_
       refine AL_store rfl (nf rfl) rfl rfl rfl rfl rfl rfl (by rfl) ts3 rfl rfl ?_
       refine AL_nil ?_
       refine hK5 _ _ _ ?_
       refine AC_seq fun K51 hK51 => ?_
       refine AC_region ?_
       refine AL_ev (Ev_load_ptr rfl rfl rfl rfl rfl rfl ts139 ta139 (by rfl) (by intro h; cases h)) rfl ?_
       refine AL_ev (Ev_move) rfl ?_
       refine AL_store rfl (nf rfl) rfl rfl rfl rfl rfl rfl (by rfl) ts139 rfl rfl ?_
       refine AL_ev (Ev_assign) rfl ?_
       refine AL_nil ?_
       refine hK51 _ _ _ ?_
       refine AC_ret ?_
       have H1 : ¬ (smallB (u.toNat : Int) = true ∨ greatB (u.toNat : Int) = true) := by rintro (h | h); rw [hg1] at h; cases h; rw [hc4] at h; cases h
       have H2 : ¬ figB (u.toNat : Int) = true := by rw [hc7]; decide
       have H3 : ¬ (u.toNat : Int) = 39 := of_decide_eq_false hc14
       exact ret_ok hdm (.cell rfl rfl rfl rfl rfl rfl ts139 ta139 (by rfl) (by intro h; cases h) (.tmp rfl rfl .nil)) (.cons (by exact .agg (.cons .d (.cons .d (.cons .d (.cons .d (.cons .d .nil)))))) (.cons .d .nil)) (sign_ret (signM_a hub H1 H2 H3 (.inr (of_decide_eq_true hc17))))
      ·refine AC_seq fun K52 hK52 => ?_
       refine AC_region ?_
       refine AL_ev (Ev_move) rfl ?_
       refine AL_ev (Ev_eql rfl rfl) rfl ?_
       refine AL_ev (Ev_move) rfl ?_
       refine AL_bool 112 rfl (fun hg18 => ?_) (fun hg18 => ?_)
       ·refine AL_guard_f rfl rfl rfl rfl ?_
        refine AL_guard_f rfl rfl rfl rfl ?_
        refine AL_ev (Ev_pick rfl) rfl ?_
        refine AL_ev (Ev_move) rfl ?_
        refine AL_guard_f rfl rfl rfl rfl ?_
        refine AL_guard_f rfl rfl rfl rfl ?_
        refine AL_ev (Ev_pick rfl) rfl ?_
        refine AL_ev (Ev_move) rfl ?_
        refine AL_guard_f rfl rfl rfl rfl ?_
        refine AL_guard_f rfl rfl rfl rfl ?_
        refine AL_ev (Ev_pick rfl) rfl ?_
        refine AL_ev (Ev_move) rfl ?_
        refine AL_guard_f rfl rfl rfl rfl ?_
        refine AL_guard_f rfl rfl rfl rfl ?_
        refine AL_ev (Ev_pick rfl) rfl ?_
        refine AL_ev (Ev_move) rfl ?_
        refine AL_guard_f rfl rfl rfl rfl ?_
        refine AL_guard_f rfl rfl rfl rfl ?_
        refine AL_ev (Ev_pick rfl) rfl ?_
        refine AL_ev (Ev_assign) rfl ?_
        refine AL_nil ?_
        refine hK52 _ _ _ ?_
        refine AC_cond_t rfl ?_
        refine AC_region ?_
        refine AL_ev (Ev_fa_ptr rfl fa139_0 rfl rfl) rfl ?_
        refine AL_store rfl (nf rfl) rfl rfl rfl rfl rfl rfl (by rfl) ts3 rfl rfl ?_
        refine AL_nil ?_
        refine hK5 _ _ _ ?_
        refine AC_seq fun K53 hK53 => ?_
        refine AC_region ?_
        refine AL_ev (Ev_load_ptr rfl rfl rfl rfl rfl rfl ts139 ta139 (by rfl) (by intro h; cases h)) rfl ?_
        refine AL_ev (Ev_move) rfl ?_
        refine AL_store rfl (nf rfl) rfl rfl rfl rfl rfl rfl (by rfl) ts139 rfl rfl ?_
        refine AL_ev (Ev_assign) rfl ?_
        refine AL_nil ?_
        refine hK53 _ _ _ ?_
        refine AC_ret ?_
        have H1 : ¬ (smallB (u.toNat : Int) = true ∨ greatB (u.toNat : Int) = true) := by rintro (h | h); rw [hg1] at h; cases h; rw [hc4] at h; cases h
        have H2 : ¬ figB (u.toNat : Int) = true := by rw [hc7]; decide
        have H3 : ¬ (u.toNat : Int) = 39 := of_decide_eq_false hc14
        have H4 : ¬ ((u.toNat : Int) = 33 ∨ (u.toNat : Int) = 59) := by rintro (h | h); exact of_decide_eq_false hg16 h; exact of_decide_eq_false hc17 h
        exact ret_ok hdm (.cell rfl rfl rfl rfl rfl rfl ts139 ta139 (by rfl) (by intro h; cases h) (.tmp rfl rfl .nil)) (.cons (by exact .agg (.cons .d (.cons .d (.cons .d (.cons .d (.cons .d .nil)))))) (.cons .d .nil)) (sign_ret (signM_m hub H1 H2 H3 H4 (by have := of_decide_eq_true hg18; omega)))
       ·refine AL_guard_t rfl rfl rfl ?_
        refine AL_ev (Ev_move) rfl ?_
        refine AL_guard_t rfl rfl rfl ?_
        refine AL_ev (Ev_eql rfl rfl) rfl ?_
        refine AL_ev (Ev_pick rfl) rfl ?_
        refine AL_ev (Ev_move) rfl ?_
        refine AL_bool 116 rfl (fun hg19 => ?_) (fun hg19 => ?_)
        ·refine AL_guard_f rfl rfl rfl rfl ?_
         refine AL_guard_f rfl rfl rfl rfl ?_
         refine AL_ev (Ev_pick rfl) rfl ?_
         refine AL_ev (Ev_move) rfl ?_
         refine AL_guard_f rfl rfl rfl rfl ?_
         refine AL_guard_f rfl rfl rfl rfl ?_
         refine AL_ev (Ev_pick rfl) rfl ?_
         refine AL_ev (Ev_move) rfl ?_
         refine AL_guard_f rfl rfl rfl rfl ?_
         refine AL_guard_f rfl rfl rfl rfl ?_
         refine AL_ev (Ev_pick rfl) rfl ?_
         refine AL_ev (Ev_move) rfl ?_
         refine AL_guard_f rfl rfl rfl rfl ?_
         refine AL_guard_f rfl rfl rfl rfl ?_
         refine AL_ev (Ev_pick rfl) rfl ?_
         refine AL_ev (Ev_assign) rfl ?_
         refine AL_nil ?_
         refine hK52 _ _ _ ?_
         refine AC_cond_t rfl ?_
         refine AC_region ?_
         refine AL_ev (Ev_fa_ptr rfl fa139_0 rfl rfl) rfl ?_
         refine AL_store rfl (nf rfl) rfl rfl rfl rfl rfl rfl (by rfl) ts3 rfl rfl ?_
         refine AL_nil ?_
         refine hK5 _ _ _ ?_
         refine AC_seq fun K54 hK54 => ?_
         refine AC_region ?_
         refine AL_ev (Ev_load_ptr rfl rfl rfl rfl rfl rfl ts139 ta139 (by rfl) (by intro h; cases h)) rfl ?_
         refine AL_ev (Ev_move) rfl ?_
         refine AL_store rfl (nf rfl) rfl rfl rfl rfl rfl rfl (by rfl) ts139 rfl rfl ?_
         refine AL_ev (Ev_assign) rfl ?_
         refine AL_nil ?_
         refine hK54 _ _ _ ?_
         refine AC_ret ?_
         have H1 : ¬ (smallB (u.toNat : Int) = true ∨ greatB (u.toNat : Int) = true) := by rintro (h | h); rw [hg1] at h; cases h; rw [hc4] at h; cases h
         have H2 : ¬ figB (u.toNat : Int) = true := by rw [hc7]; decide
         have H3 : ¬ (u.toNat : Int) = 39 := of_decide_eq_false hc14
         have H4 : ¬ ((u.toNat : Int) = 33 ∨ (u.toNat : Int) = 59) := by rintro (h | h); exact of_decide_eq_false hg16 h; exact of_decide_eq_false hc17 h
         exact ret_ok hdm (.cell rfl rfl rfl rfl rfl rfl ts139 ta139 (by rfl) (by intro h; cases h) (.tmp rfl rfl .nil)) (.cons (by exact .agg (.cons .d (.cons .d (.cons .d (.cons .d (.cons .d .nil)))))) (.cons .d .nil)) (sign_ret (signM_m hub H1 H2 H3 H4 (by have := of_decide_eq_true hg19; omega)))
        ·refine AL_guard_t rfl rfl rfl ?_
         refine AL_ev (Ev_move) rfl ?_
         refine AL_guard_t rfl rfl rfl ?_
         refine AL_ev (Ev_eql rfl rfl) rfl ?_
         refine AL_ev (Ev_pick rfl) rfl ?_
         refine AL_ev (Ev_move) rfl ?_
         refine AL_bool 120 rfl (fun hg20 => ?_) (fun hg20 => ?_)
         ·refine AL_guard_f rfl rfl rfl rfl ?_
          refine AL_guard_f rfl rfl rfl rfl ?_
          refine AL_ev (Ev_pick rfl) rfl ?_
          refine AL_ev (Ev_move) rfl ?_
          refine AL_guard_f rfl rfl rfl rfl ?_
          refine AL_guard_f rfl rfl rfl rfl ?_
          refine AL_ev (Ev_pick rfl) rfl ?_
          refine AL_ev (Ev_move) rfl ?_
          refine AL_guard_f rfl rfl rfl rfl ?_
          refine AL_guard_f rfl rfl rfl rfl ?_
          refine AL_ev (Ev_pick rfl) rfl ?_
          refine AL_ev (Ev_assign) rfl ?_
          refine AL_nil ?_
          refine hK52 _ _ _ ?_
          refine AC_cond_t rfl ?_
          refine AC_region ?_
          refine AL_ev (Ev_fa_ptr rfl fa139_0 rfl rfl) rfl ?_
          refine AL_store rfl (nf rfl) rfl rfl rfl rfl rfl rfl (by rfl) ts3 rfl rfl ?_
          refine AL_nil ?_
          refine hK5 _ _ _ ?_
          refine AC_seq fun K55 hK55 => ?_
          refine AC_region ?_
          refine AL_ev (Ev_load_ptr rfl rfl rfl rfl rfl rfl ts139 ta139 (by rfl) (by intro h; cases h)) rfl ?_
          refine AL_ev (Ev_move) rfl ?_
          refine AL_store rfl (nf rfl) rfl rfl rfl rfl rfl rfl (by rfl) ts139 rfl rfl ?_
          refine AL_ev (Ev_assign) rfl ?_
          refine AL_nil ?_
          refine hK55 _ _ _ ?_
          refine AC_ret ?_
          have H1 : ¬ (smallB (u.toNat : Int) = true ∨ greatB (u.toNat : Int) = true) := by rintro (h | h); rw [hg1] at h; cases h; rw [hc4] at h; cases h
          have H2 : ¬ figB (u.toNat : Int) = true := by rw [hc7]; decide
          have H3 : ¬ (u.toNat : Int) = 39 := of_decide_eq_false hc14
          have H4 : ¬ ((u.toNat : Int) = 33 ∨ (u.toNat : Int) = 59) := by rintro (h | h); exact of_decide_eq_false hg16 h; exact of_decide_eq_false hc17 h
          exact ret_ok hdm (.cell rfl rfl rfl rfl rfl rfl ts139 ta139 (by rfl) (by intro h; cases h) (.tmp rfl rfl .nil)) (.cons (by exact .agg (.cons .d (.cons .d (.cons .d (.cons .d (.cons .d .nil)))))) (.cons .d .nil)) (sign_ret (signM_m hub H1 H2 H3 H4 (by have := of_decide_eq_true hg20; omega)))
         ·refine AL_guard_t rfl rfl rfl ?_
          refine AL_ev (Ev_move) rfl ?_
          refine AL_guard_t rfl rfl rfl ?_
          refine AL_ev (Ev_eql rfl rfl) rfl ?_
          refine AL_ev (Ev_pick rfl) rfl ?_
          refine AL_ev (Ev_move) rfl ?_
          refine AL_bool 124 rfl (fun hg21 => ?_) (fun hg21 => ?_)
          ·refine AL_guard_f rfl rfl rfl rfl ?_
           refine AL_guard_f rfl rfl rfl rfl ?_
           refine AL_ev (Ev_pick rfl) rfl ?_
           refine AL_ev (Ev_move) rfl ?_
           refine AL_guard_f rfl rfl rfl rfl ?_
           refine AL_guard_f rfl rfl rfl rfl ?_
           refine AL_ev (Ev_pick rfl) rfl ?_
           refine AL_ev (Ev_assign) rfl ?_
           refine AL_nil ?_
           refine hK52 _ _ _ ?_
           refine AC_cond_t rfl ?_
           refine AC_region ?_
           refine AL_ev (Ev_fa_ptr rfl fa139_0 rfl rfl) rfl ?_
           refine AL_store rfl (nf rfl) rfl rfl rfl rfl rfl rfl (by rfl) ts3 rfl rfl ?_
           refine AL_nil ?_
           refine hK5 _ _ _ ?_
           refine AC_seq fun K56 hK56 => ?_
           refine AC_region ?_
           refine AL_ev (Ev_load_ptr rfl rfl rfl rfl rfl rfl ts139 ta139 (by rfl) (by intro h; cases h)) rfl ?_
           refine AL_ev (Ev_move) rfl ?_
           refine AL_store rfl (nf rfl) rfl rfl rfl rfl rfl rfl (by rfl) ts139 rfl rfl ?_
           refine AL_ev (Ev_assign) rfl ?_
           refine AL_nil ?_
           refine hK56 _ _ _ ?_
           refine AC_ret ?_
           have H1 : ¬ (smallB (u.toNat : Int) = true ∨ greatB (u.toNat : Int) = true) := by rintro (h | h); rw [hg1] at h; cases h; rw [hc4] at h; cases h
           have H2 : ¬ figB (u.toNat : Int) = true := by rw [hc7]; decide
           have H3 : ¬ (u.toNat : Int) = 39 := of_decide_eq_false hc14
           have H4 : ¬ ((u.toNat : Int) = 33 ∨ (u.toNat : Int) = 59) := by rintro (h | h); exact of_decide_eq_false hg16 h; exact of_decide_eq_false hc17 h
           exact ret_ok hdm (.cell rfl rfl rfl rfl rfl rfl ts139 ta139 (by rfl) (by intro h; cases h) (.tmp rfl rfl .nil)) (.cons (by exact .agg (.cons .d (.cons .d (.cons .d (.cons .d (.cons .d .nil)))))) (.cons .d .nil)) (sign_ret (signM_m hub H1 H2 H3 H4 (by have := of_decide_eq_true hg21; omega)))
          ·refine AL_guard_t rfl rfl rfl ?_
           refine AL_ev (Ev_move) rfl ?_
           refine AL_guard_t rfl rfl rfl ?_
           refine AL_ev (Ev_eql rfl rfl) rfl ?_
           refine AL_ev (Ev_pick rfl) rfl ?_
           refine AL_ev (Ev_move) rfl ?_
           refine AL_bool 128 rfl (fun hg22 => ?_) (fun hg22 => ?_)
           ·refine AL_guard_f rfl rfl rfl rfl ?_
            refine AL_guard_f rfl rfl rfl rfl ?_
            refine AL_ev (Ev_pick rfl) rfl ?_
            refine AL_ev (Ev_assign) rfl ?_
            refine AL_nil ?_
            refine hK52 _ _ _ ?_
            refine AC_cond_t rfl ?_
            refine AC_region ?_
            refine AL_ev (Ev_fa_ptr rfl fa139_0 rfl rfl) rfl ?_
            refine AL_store rfl (nf rfl) rfl rfl rfl rfl rfl rfl (by rfl) ts3 rfl rfl ?_
            refine AL_nil ?_
            refine hK5 _ _ _ ?_
            refine AC_seq fun K57 hK57 => ?_
            refine AC_region ?_
            refine AL_ev (Ev_load_ptr rfl rfl rfl rfl rfl rfl ts139 ta139 (by rfl) (by intro h; cases h)) rfl ?_
            refine AL_ev (Ev_move) rfl ?_
            refine AL_store rfl (nf rfl) rfl rfl rfl rfl rfl rfl (by rfl) ts139 rfl rfl ?_
            refine AL_ev (Ev_assign) rfl ?_
            refine AL_nil ?_
            refine hK57 _ _ _ ?_
            refine AC_ret ?_
            have H1 : ¬ (smallB (u.toNat : Int) = true ∨ greatB (u.toNat : Int) = true) := by rintro (h | h); rw [hg1] at h; cases h; rw [hc4] at h; cases h
            have H2 : ¬ figB (u.toNat : Int) = true := by rw [hc7]; decide
            have H3 : ¬ (u.toNat : Int) = 39 := of_decide_eq_false hc14
            have H4 : ¬ ((u.toNat : Int) = 33 ∨ (u.toNat : Int) = 59) := by rintro (h | h); exact of_decide_eq_false hg16 h; exact of_decide_eq_false hc17 h
            exact ret_ok hdm (.cell rfl rfl rfl rfl rfl rfl ts139 ta139 (by rfl) (by intro h; cases h) (.tmp rfl rfl .nil)) (.cons (by exact .agg (.cons .d (.cons .d (.cons .d (.cons .d (.cons .d .nil)))))) (.cons .d .nil)) (sign_ret (signM_m hub H1 H2 H3 H4 (by have := of_decide_eq_true hg22; omega)))
           ·refine AL_guard_t rfl rfl rfl ?_
            refine AL_ev (Ev_move) rfl ?_
            refine AL_guard_t rfl rfl rfl ?_
            refine AL_ev (Ev_eql rfl rfl) rfl ?_
            refine AL_ev (Ev_pick rfl) rfl ?_
            refine AL_ev (Ev_assign) rfl ?_
            refine AL_nil ?_
            refine hK52 _ _ _ ?_
            refine AC_cond rfl (fun hc23 => ?_) (fun hc23 => ?_)
            ·refine AC_region ?_
             refine AL_ev (Ev_fa_ptr rfl fa139_0 rfl rfl) rfl ?_
             refine AL_store rfl (nf rfl) rfl rfl rfl rfl rfl rfl (by rfl) ts3 rfl rfl ?_
             refine AL_nil ?_
             refine hK5 _ _ _ ?_
             refine AC_seq fun K58 hK58 => ?_
             refine AC_region ?_
             refine AL_ev (Ev_load_ptr rfl rfl rfl rfl rfl rfl ts139 ta139 (by rfl) (by intro h; cases h)) rfl ?_
             refine AL_ev (Ev_move) rfl ?_
             refine AL_store rfl (nf rfl) rfl rfl rfl rfl rfl rfl (by rfl) ts139 rfl rfl ?_
             refine AL_ev (Ev_assign) rfl ?_
             refine AL_nil ?_
             refine hK58 _ _ _ ?_
             refine AC_ret ?_
             have H1 : ¬ (smallB (u.toNat : Int) = true ∨ greatB (u.toNat : Int) = true) := by rintro (h | h); rw [hg1] at h; cases h; rw [hc4] at h; cases h
             have H2 : ¬ figB (u.toNat : Int) = true := by rw [hc7]; decide
             have H3 : ¬ (u.toNat : Int) = 39 := of_decide_eq_false hc14
             have H4 : ¬ ((u.toNat : Int) = 33 ∨ (u.toNat : Int) = 59) := by rintro (h | h); exact of_decide_eq_false hg16 h; exact of_decide_eq_false hc17 h
             exact ret_ok hdm (.cell rfl rfl rfl rfl rfl rfl ts139 ta139 (by rfl) (by intro h; cases h) (.tmp rfl rfl .nil)) (.cons (by exact .agg (.cons .d (.cons .d (.cons .d (.cons .d (.cons .d .nil)))))) (.cons .d .nil)) (sign_ret (signM_m hub H1 H2 H3 H4 (by have := of_decide_eq_true hc23; omega)))
            ·refine AC_seq fun K59 hK59 => ?_
             refine AC_region ?_
             refine AL_ev (Ev_move) rfl ?_
             refine AL_ev (Ev_move) rfl ?_
             refine AL_fcall0 hT rfl cl159 (c_end t i u hs hu) rfl rfl ?_
             refine AL_ev (Ev_assign) rfl ?_
             refine AL_nil ?_
             refine hK59 _ _ _ ?_
             refine AC_cond rfl (fun hc24 => ?_) (fun hc24 => ?_)
             ·refine AC_region ?_
              refine AL_ev (Ev_fa_ptr rfl fa139_0 rfl rfl) rfl ?_
              refine AL_store rfl (nf rfl) rfl rfl rfl rfl rfl rfl (by rfl) ts3 rfl rfl ?_
              refine AL_nil ?_
              refine hK5 _ _ _ ?_
              refine AC_seq fun K60 hK60 => ?_
              refine AC_region ?_
              refine AL_ev (Ev_load_ptr rfl rfl rfl rfl rfl rfl ts139 ta139 (by rfl) (by intro h; cases h)) rfl ?_
              refine AL_ev (Ev_move) rfl ?_
              refine AL_store rfl (nf rfl) rfl rfl rfl rfl rfl rfl (by rfl) ts139 rfl rfl ?_
              refine AL_ev (Ev_assign) rfl ?_
              refine AL_nil ?_
              refine hK60 _ _ _ ?_
              refine AC_ret ?_
              have H1 : ¬ (smallB (u.toNat : Int) = true ∨ greatB (u.toNat : Int) = true) := by rintro (h | h); rw [hg1] at h; cases h; rw [hc4] at h; cases h
              have H2 : ¬ figB (u.toNat : Int) = true := by rw [hc7]; decide
              have H3 : ¬ (u.toNat : Int) = 39 := of_decide_eq_false hc14
              have H4 : ¬ ((u.toNat : Int) = 33 ∨ (u.toNat : Int) = 59) := by rintro (h | h); exact of_decide_eq_false hg16 h; exact of_decide_eq_false hc17 h
              have H5 : ¬ ((u.toNat : Int) = 40 ∨ (u.toNat : Int) = 41 ∨ (u.toNat : Int) = 91 ∨ (u.toNat : Int) = 93 ∨ (u.toNat : Int) = 44 ∨ (u.toNat : Int) = 124) := by rintro (h | h | h | h | h | h); exact of_decide_eq_false hg18 h; exact of_decide_eq_false hg19 h; exact of_decide_eq_false hg20 h; exact of_decide_eq_false hg21 h; exact of_decide_eq_false hg22 h; exact of_decide_eq_false hc23 h
              exact ret_ok hdm (.cell rfl rfl rfl rfl rfl rfl ts139 ta139 (by rfl) (by intro h; cases h) (.tmp rfl rfl .nil)) (.cons (by exact .agg (.cons .d (.cons .d (.cons .d (.cons .d (.cons .d .nil)))))) (.cons .d .nil)) (sign_ret (signM_e hub H1 H2 H3 H4 H5 hc24))
             ·refine AC_seq fun K61 hK61 => ?_
              refine AC_region ?_
              refine AL_ev (Ev_move) rfl ?_
              refine AL_fcall0 hT rfl cl160 (c_symbol (u.toNat : Int)) rfl rfl ?_
              refine AL_ev (Ev_assign) rfl ?_
              refine AL_nil ?_
              refine hK61 _ _ _ ?_
              refine AC_cond rfl (fun hc25 => ?_) (fun hc25 => ?_)
              ·refine AC_seq fun K62 hK62 => ?_
               refine AC_region ?_
               refine AL_ev (Ev_move) rfl ?_
               refine AL_ev (Ev_assign) rfl ?_
               refine AL_nil ?_
               refine hK62 _ _ _ ?_
               refine AC_seq fun K63 hK63 => ?_
               refine AC_block ?_
               refine AC_loopS [0, 1, 4, 7, 8] (Nat) (fun j => [(13, i64 ((j : Nat) : Int))]) (fun q => [some ⟨139, LSG, [.d (injG sg0)]⟩, some ⟨139, LSG, [.d (injG ⟨6, t.extract i (i + 1), 0, i, false⟩)]⟩]) (fun j => t.size - j) (fun j => i ≤ j ∧ j ≤ t.size ∧ i + runL symB ((bts t).drop i) = j + runL symB ((bts t).drop j)) (i) ?_ ?_ ?_
               ·exact enterS [some 0, some 1] rfl rfl (BxTo_some rfl rfl rfl rfl (.cons (.rd .d) .nil) (BxTo_some rfl rfl rfl rfl (.cons (.rd .d) .nil) BxTo_nil)) (SlTo_cons (by exact .rd .d) (SlTo_cons (by exact .rd .d) (SlTo_cons (by exact .rd .d) (SlTo_cons (by exact .ptr rfl) (SlTo_cons (by exact .ptr rfl) (SlTo_cons (by exact .rd .d) SlTo_nil))))))
               ·exact ⟨Nat.le_refl _, by omega, rfl⟩
               rintro j ⟨hj0, hj1, hI⟩
               refine AC_seq fun K64 hK64 => ?_
               refine AC_seq fun K65 hK65 => ?_
               refine AC_region ?_
               refine AL_ev (Ev_move) rfl ?_
               refine AL_ev (Ev_move) rfl ?_
               refine AL_ev (Ev_len_str tstr9 rfl) rfl ?_
               refine AL_ev (Ev_lss rfl rfl) rfl ?_
               refine AL_ev (Ev_move) rfl ?_
               refine AL_bool 146 rfl (fun hg26 => ?_) (fun hg26 => ?_)
               ·have hjl : j < t.size := by have := of_decide_eq_true hg26; omega
                have hjbv : j < (bts t).length := by rw [bts_len]; omega
                refine Exists.elim (show ∃ v, (bts t)[j]? = some v from ⟨_, List.getElem?_eq_getElem hjbv⟩) fun v hv => ?_
                have hv2 := bts_get hv
                have hvb := UInt8.toNat_lt v
                have hdr := drop_get hv
                refine AL_guard_t rfl rfl rfl ?_
                refine AL_ev (Ev_move) rfl ?_
                refine AL_guard_t rfl rfl rfl ?_
                refine AL_ev (Ev_move) rfl ?_
                refine AL_guard_t rfl rfl rfl ?_
                refine AL_ev (Ev_ix_str tstr9 rfl rfl (by omega) (by assumption)) rfl ?_
                refine AL_guard_t rfl rfl rfl ?_
                refine AL_fcall0 hT rfl cl160 (c_symbol (v.toNat : Int)) rfl rfl ?_
                refine AL_ev (Ev_pick rfl) rfl ?_
                refine AL_nil ?_
                refine hK65 _ _ _ ?_
                refine AC_cond rfl (fun hc27 => ?_) (fun hc27 => ?_)
                ·refine AC_skip ?_
                 refine hK64 _ _ _ ?_
                 refine AC_block ?_
                 refine AC_region ?_
                 refine AL_ev (Ev_move) rfl ?_
                 refine AL_ev (Ev_add rfl rfl _ (wrap_id (by omega) (by omega))) rfl ?_
                 refine AL_ev (Ev_assign) rfl ?_
                 refine AL_nil ?_
                 refine closeS (j + 1) [some 0, some 1] rfl rfl (by show t.size - (j + 1) < t.size - j; omega) ⟨by omega, by omega, by rw [hI, hdr]; simp_all [runL]; omega⟩ (BxTo_some rfl rfl rfl rfl (.cons (.rd .d) .nil) (BxTo_some rfl rfl rfl rfl (.cons (.rd .d) .nil) BxTo_nil)) (SlTo_cons (Vw_int (by rfl)) (SlTo_cons (by exact .rd .d) (SlTo_cons (by exact .rd .d) (SlTo_cons (by exact .ptr rfl) (SlTo_cons (by exact .ptr rfl) (SlTo_cons (by exact .rd .d) SlTo_nil))))))
                ·have hI2 : i + runL symB ((bts t).drop i) = j := by rw [hI, hdr]; simp_all [runL]
                 refine AC_exit ?_
                 refine hK63 _ _ _ ?_
                 refine AC_seq fun K66 hK66 => ?_
                 refine AC_region ?_
                 refine AL_ev (Ev_move) rfl ?_
                 refine AL_ev (Ev_move) rfl ?_
                 refine AL_ev (Ev_sub rfl rfl _ (wrap_id (by omega) (by omega))) rfl ?_
                 refine AL_ev (Ev_leq rfl rfl) rfl ?_
                 refine AL_nil ?_
                 refine hK66 _ _ _ ?_
                 refine AC_cond rfl (fun hc28 => ?_) (fun hc28 => ?_)
                 ·have hn9 : runL symB ((bts t).drop i) ≤ 20 := by have := of_decide_eq_true hc28; omega
                  refine AC_seq fun K67 hK67 => ?_
                  refine AC_region ?_
                  refine AL_ev (Ev_fa_ptr rfl fa139_0 rfl rfl) rfl ?_
                  refine AL_store rfl (nf rfl) rfl rfl rfl rfl rfl rfl (by rfl) ts3 rfl rfl ?_
                  refine AL_nil ?_
                  refine hK67 _ _ _ ?_
                  refine AC_seq fun K68 hK68 => ?_
                  refine AC_region ?_
                  refine AL_ev (Ev_move) rfl ?_
                  refine AL_ev (Ev_move) rfl ?_
                  refine AL_ev (Ev_move) rfl ?_
                  refine AL_ev (Ev_slice_str tstr9 rfl rfl rfl (by omega) (by omega) (by omega)) rfl ?_
                  refine AL_ev (Ev_fa_ptr rfl fa139_1 rfl rfl) rfl ?_
                  refine AL_store rfl (nf rfl) rfl rfl rfl rfl rfl rfl (by rfl) ts9 rfl rfl ?_
                  refine AL_nil ?_
                  refine hK68 _ _ _ ?_
                  refine AC_region ?_
                  refine AL_ev (Ev_move) rfl ?_
                  refine AL_ev (Ev_assign) rfl ?_
                  refine AL_nil ?_
                  refine hK5 _ _ _ ?_
                  refine AC_seq fun K69 hK69 => ?_
                  refine AC_region ?_
                  refine AL_ev (Ev_load_ptr rfl rfl rfl rfl rfl rfl ts139 ta139 (by rfl) (by intro h; cases h)) rfl ?_
                  refine AL_ev (Ev_move) rfl ?_
                  refine AL_store rfl (nf rfl) rfl rfl rfl rfl rfl rfl (by rfl) ts139 rfl rfl ?_
                  refine AL_ev (Ev_assign) rfl ?_
                  refine AL_nil ?_
                  refine hK69 _ _ _ ?_
                  refine AC_ret ?_
                  have H1 : ¬ (smallB (u.toNat : Int) = true ∨ greatB (u.toNat : Int) = true) := by rintro (h | h); rw [hg1] at h; cases h; rw [hc4] at h; cases h
                  have H2 : ¬ figB (u.toNat : Int) = true := by rw [hc7]; decide
                  have H3 : ¬ (u.toNat : Int) = 39 := of_decide_eq_false hc14
                  have H4 : ¬ ((u.toNat : Int) = 33 ∨ (u.toNat : Int) = 59) := by rintro (h | h); exact of_decide_eq_false hg16 h; exact of_decide_eq_false hc17 h
                  have H5 : ¬ ((u.toNat : Int) = 40 ∨ (u.toNat : Int) = 41 ∨ (u.toNat : Int) = 91 ∨ (u.toNat : Int) = 93 ∨ (u.toNat : Int) = 44 ∨ (u.toNat : Int) = 124) := by rintro (h | h | h | h | h | h); exact of_decide_eq_false hg18 h; exact of_decide_eq_false hg19 h; exact of_decide_eq_false hg20 h; exact of_decide_eq_false hg21 h; exact of_decide_eq_false hg22 h; exact of_decide_eq_false hc23 h
                  have H6 : ¬ endB t i = true := by rw [hc24]; decide
                  exact ret_ok hdm (.cell rfl rfl rfl rfl rfl rfl ts139 ta139 (by rfl) (by intro h; cases h) (.tmp rfl rfl .nil)) (.cons (by exact .agg (.cons .d (.cons .d (.cons .d (.cons .d (.cons .d .nil)))))) (.cons .d .nil)) (sign_ret (signM_s hub H1 H2 H3 H4 H5 H6 hc25 hI2 hn9))
                 ·have hn9 : ¬ runL symB ((bts t).drop i) ≤ 20 := by have := of_decide_eq_false hc28; omega
                  refine AC_skip ?_
                  refine hK5 _ _ _ ?_
                  refine AC_seq fun K70 hK70 => ?_
                  refine AC_region ?_
                  refine AL_ev (Ev_load_ptr rfl rfl rfl rfl rfl rfl ts139 ta139 (by rfl) (by intro h; cases h)) rfl ?_
                  refine AL_ev (Ev_move) rfl ?_
                  refine AL_store rfl (nf rfl) rfl rfl rfl rfl rfl rfl (by rfl) ts139 rfl rfl ?_
                  refine AL_ev (Ev_assign) rfl ?_
                  refine AL_nil ?_
                  refine hK70 _ _ _ ?_
                  refine AC_ret ?_
                  have H1 : ¬ (smallB (u.toNat : Int) = true ∨ greatB (u.toNat : Int) = true) := by rintro (h | h); rw [hg1] at h; cases h; rw [hc4] at h; cases h
                  have H2 : ¬ figB (u.toNat : Int) = true := by rw [hc7]; decide
                  have H3 : ¬ (u.toNat : Int) = 39 := of_decide_eq_false hc14
                  have H4 : ¬ ((u.toNat : Int) = 33 ∨ (u.toNat : Int) = 59) := by rintro (h | h); exact of_decide_eq_false hg16 h; exact of_decide_eq_false hc17 h
                  have H5 : ¬ ((u.toNat : Int) = 40 ∨ (u.toNat : Int) = 41 ∨ (u.toNat : Int) = 91 ∨ (u.toNat : Int) = 93 ∨ (u.toNat : Int) = 44 ∨ (u.toNat : Int) = 124) := by rintro (h | h | h | h | h | h); exact of_decide_eq_false hg18 h; exact of_decide_eq_false hg19 h; exact of_decide_eq_false hg20 h; exact of_decide_eq_false hg21 h; exact of_decide_eq_false hg22 h; exact of_decide_eq_false hc23 h
                  have H6 : ¬ endB t i = true := by rw [hc24]; decide
                  exact ret_ok hdm (.cell rfl rfl rfl rfl rfl rfl ts139 ta139 (by rfl) (by intro h; cases h) (.tmp rfl rfl .nil)) (.cons (by exact .d) (.cons .d .nil)) (sign_ret (signM_s0 hub H1 H2 H3 H4 H5 H6 hc25 hn9))
               ·have hge : t.size ≤ j := by have := of_decide_eq_false hg26; omega
                have hI2 : i + runL symB ((bts t).drop i) = j := by rw [hI, List.drop_eq_nil_of_le (by simp; omega)]; rfl
                refine AL_guard_f rfl rfl rfl rfl ?_
                refine AL_guard_f rfl rfl rfl rfl ?_
                refine AL_guard_f rfl rfl rfl rfl ?_
                refine AL_guard_f rfl rfl rfl rfl ?_
                refine AL_ev (Ev_pick rfl) rfl ?_
                refine AL_nil ?_
                refine hK65 _ _ _ ?_
                refine AC_cond_f rfl ?_
                refine AC_exit ?_
                refine hK63 _ _ _ ?_
                refine AC_seq fun K71 hK71 => ?_
                refine AC_region ?_
                refine AL_ev (Ev_move) rfl ?_
                refine AL_ev (Ev_move) rfl ?_
                refine AL_ev (Ev_sub rfl rfl _ (wrap_id (by omega) (by omega))) rfl ?_
                refine AL_ev (Ev_leq rfl rfl) rfl ?_
                refine AL_nil ?_
                refine hK71 _ _ _ ?_
                refine AC_cond rfl (fun hc29 => ?_) (fun hc29 => ?_)
                ·have hn9 : runL symB ((bts t).drop i) ≤ 20 := by have := of_decide_eq_true hc29; omega
                 refine AC_seq fun K72 hK72 => ?_
                 refine AC_region ?_
                 refine AL_ev (Ev_fa_ptr rfl fa139_0 rfl rfl) rfl ?_
                 refine AL_store rfl (nf rfl) rfl rfl rfl rfl rfl rfl (by rfl) ts3 rfl rfl ?_
                 refine AL_nil ?_
                 refine hK72 _ _ _ ?_
                 refine AC_seq fun K73 hK73 => ?_
                 refine AC_region ?_
                 refine AL_ev (Ev_move) rfl ?_
                 refine AL_ev (Ev_move) rfl ?_
                 refine AL_ev (Ev_move) rfl ?_
                 refine AL_ev (Ev_slice_str tstr9 rfl rfl rfl (by omega) (by omega) (by omega)) rfl ?_
                 refine AL_ev (Ev_fa_ptr rfl fa139_1 rfl rfl) rfl ?_
                 refine AL_store rfl (nf rfl) rfl rfl rfl rfl rfl rfl (by rfl) ts9 rfl rfl ?_
                 refine AL_nil ?_
                 refine hK73 _ _ _ ?_
                 refine AC_region ?_
                 refine AL_ev (Ev_move) rfl ?_
                 refine AL_ev (Ev_assign) rfl ?_
                 refine AL_nil ?_
                 refine hK5 _ _ _ ?_
                 refine AC_seq fun K74 hK74 => ?_
                 refine AC_region ?_
                 refine AL_ev (Ev_load_ptr rfl rfl rfl rfl rfl rfl ts139 ta139 (by rfl) (by intro h; cases h)) rfl ?_
                 refine AL_ev (Ev_move) rfl ?_
                 refine AL_store rfl (nf rfl) rfl rfl rfl rfl rfl rfl (by rfl) ts139 rfl rfl ?_
                 refine AL_ev (Ev_assign) rfl ?_
                 refine AL_nil ?_
                 refine hK74 _ _ _ ?_
                 refine AC_ret ?_
                 have H1 : ¬ (smallB (u.toNat : Int) = true ∨ greatB (u.toNat : Int) = true) := by rintro (h | h); rw [hg1] at h; cases h; rw [hc4] at h; cases h
                 have H2 : ¬ figB (u.toNat : Int) = true := by rw [hc7]; decide
                 have H3 : ¬ (u.toNat : Int) = 39 := of_decide_eq_false hc14
                 have H4 : ¬ ((u.toNat : Int) = 33 ∨ (u.toNat : Int) = 59) := by rintro (h | h); exact of_decide_eq_false hg16 h; exact of_decide_eq_false hc17 h
                 have H5 : ¬ ((u.toNat : Int) = 40 ∨ (u.toNat : Int) = 41 ∨ (u.toNat : Int) = 91 ∨ (u.toNat : Int) = 93 ∨ (u.toNat : Int) = 44 ∨ (u.toNat : Int) = 124) := by rintro (h | h | h | h | h | h); exact of_decide_eq_false hg18 h; exact of_decide_eq_false hg19 h; exact of_decide_eq_false hg20 h; exact of_decide_eq_false hg21 h; exact of_decide_eq_false hg22 h; exact of_decide_eq_false hc23 h
                 have H6 : ¬ endB t i = true := by rw [hc24]; decide
                 exact ret_ok hdm (.cell rfl rfl rfl rfl rfl rfl ts139 ta139 (by rfl) (by intro h; cases h) (.tmp rfl rfl .nil)) (.cons (by exact .agg (.cons .d (.cons .d (.cons .d (.cons .d (.cons .d .nil)))))) (.cons .d .nil)) (sign_ret (signM_s hub H1 H2 H3 H4 H5 H6 hc25 hI2 hn9))
                ·have hn9 : ¬ runL symB ((bts t).drop i) ≤ 20 := by have := of_decide_eq_false hc29; omega
                 refine AC_skip ?_
                 refine hK5 _ _ _ ?_
                 refine AC_seq fun K75 hK75 => ?_
                 refine AC_region ?_
                 refine AL_ev (Ev_load_ptr rfl rfl rfl rfl rfl rfl ts139 ta139 (by rfl) (by intro h; cases h)) rfl ?_
                 refine AL_ev (Ev_move) rfl ?_
                 refine AL_store rfl (nf rfl) rfl rfl rfl rfl rfl rfl (by rfl) ts139 rfl rfl ?_
                 refine AL_ev (Ev_assign) rfl ?_
                 refine AL_nil ?_
                 refine hK75 _ _ _ ?_
                 refine AC_ret ?_
                 have H1 : ¬ (smallB (u.toNat : Int) = true ∨ greatB (u.toNat : Int) = true) := by rintro (h | h); rw [hg1] at h; cases h; rw [hc4] at h; cases h
                 have H2 : ¬ figB (u.toNat : Int) = true := by rw [hc7]; decide
                 have H3 : ¬ (u.toNat : Int) = 39 := of_decide_eq_false hc14
                 have H4 : ¬ ((u.toNat : Int) = 33 ∨ (u.toNat : Int) = 59) := by rintro (h | h); exact of_decide_eq_false hg16 h; exact of_decide_eq_false hc17 h
                 have H5 : ¬ ((u.toNat : Int) = 40 ∨ (u.toNat : Int) = 41 ∨ (u.toNat : Int) = 91 ∨ (u.toNat : Int) = 93 ∨ (u.toNat : Int) = 44 ∨ (u.toNat : Int) = 124) := by rintro (h | h | h | h | h | h); exact of_decide_eq_false hg18 h; exact of_decide_eq_false hg19 h; exact of_decide_eq_false hg20 h; exact of_decide_eq_false hg21 h; exact of_decide_eq_false hg22 h; exact of_decide_eq_false hc23 h
                 have H6 : ¬ endB t i = true := by rw [hc24]; decide
                 exact ret_ok hdm (.cell rfl rfl rfl rfl rfl rfl ts139 ta139 (by rfl) (by intro h; cases h) (.tmp rfl rfl .nil)) (.cons (by exact .d) (.cons .d .nil)) (sign_ret (signM_s0 hub H1 H2 H3 H4 H5 H6 hc25 hn9))
              ·refine AC_skip ?_
               refine hK5 _ _ _ ?_
               refine AC_seq fun K76 hK76 => ?_
               refine AC_region ?_
               refine AL_ev (Ev_load_ptr rfl rfl rfl rfl rfl rfl ts139 ta139 (by rfl) (by intro h; cases h)) rfl ?_
               refine AL_ev (Ev_move) rfl ?_
               refine AL_store rfl (nf rfl) rfl rfl rfl rfl rfl rfl (by rfl) ts139 rfl rfl ?_
               refine AL_ev (Ev_assign) rfl ?_
               refine AL_nil ?_
               refine hK76 _ _ _ ?_
               refine AC_ret ?_
               have H1 : ¬ (smallB (u.toNat : Int) = true ∨ greatB (u.toNat : Int) = true) := by rintro (h | h); rw [hg1] at h; cases h; rw [hc4] at h; cases h
               have H2 : ¬ figB (u.toNat : Int) = true := by rw [hc7]; decide
               have H3 : ¬ (u.toNat : Int) = 39 := of_decide_eq_false hc14
               have H4 : ¬ ((u.toNat : Int) = 33 ∨ (u.toNat : Int) = 59) := by rintro (h | h); exact of_decide_eq_false hg16 h; exact of_decide_eq_false hc17 h
               have H5 : ¬ ((u.toNat : Int) = 40 ∨ (u.toNat : Int) = 41 ∨ (u.toNat : Int) = 91 ∨ (u.toNat : Int) = 93 ∨ (u.toNat : Int) = 44 ∨ (u.toNat : Int) = 124) := by rintro (h | h | h | h | h | h); exact of_decide_eq_false hg18 h; exact of_decide_eq_false hg19 h; exact of_decide_eq_false hg20 h; exact of_decide_eq_false hg21 h; exact of_decide_eq_false hg22 h; exact of_decide_eq_false hc23 h
               have H6 : ¬ endB t i = true := by rw [hc24]; decide
               exact ret_ok hdm (.cell rfl rfl rfl rfl rfl rfl ts139 ta139 (by rfl) (by intro h; cases h) (.tmp rfl rfl .nil)) (.cons (by exact .d) (.cons .d .nil)) (sign_ret (signM_b hub H1 H2 H3 H4 H5 H6 (by rw [hc25]; decide)))
end Go.Proofs.YtjgliechbnommaaGreatDoor
set_option linter.unusedVariables false
set_option linter.unusedSimpArgs false
namespace Go.Proofs.YtjgliechbnommaaGreatDoor
open Go.Eng
theorem tz94 : tyZero Tryz.prog 94 = some (some (.agg #[.slice none 0 0, .int .i64 0, .int .i64 0])) := by kernel_rfl
theorem cl59 : Callable Tryz.prog 59 := Callable_of Tryz.func59 (by kernel_rfl) (by kernel_rfl)
theorem cl94 : Callable Tryz.prog 94 := Callable_of Tryz.func94 (by kernel_rfl) (by kernel_rfl)
theorem fa94_0 : tyField Tryz.prog 94 0 = some (0, true) := by kernel_rfl
theorem fa94_1 : tyField Tryz.prog 94 1 = some (1, true) := by kernel_rfl
theorem fa94_2 : tyField Tryz.prog 94 2 = some (2, true) := by kernel_rfl
theorem ta22 : tyAgg Tryz.prog 22 = some false := by kernel_rfl
theorem ta5 : tyAgg Tryz.prog 5 = some false := by kernel_rfl
theorem tpl94 : tyPlaces Tryz.prog 94 = some (layPlaces 0 [.one, .one, .one]) := by kernel_rfl
theorem ts22 : tySize Tryz.prog 22 = some 1 := by kernel_rfl
set_option maxHeartbeats 1000000 in
set_option maxRecDepth 4000 in
theorem c_byteB (bs : List Int) (ty : TypeId) (i h : Int) (hl : bs.length ≤ lim) (h0 : 0 ≤ i) (h1 : i ≤ bs.length) : HCallR Tryz.prog 94 [] [.ptr LCU 0 0 []] [curBox ty bs i h] 1 (fun q : Int × Int × Int => 0 ≤ q.1 ∧ q.1 ≤ 255 ∧ 0 ≤ q.2.1 ∧ q.2.1 ≤ (bs.length : Int)) (fun q => [i64 q.1]) (fun q => [curBox ty bs q.2.1 q.2.2]) := by
 have hl : bs.length ≤ 1099511627776 := hl
 refine HCallR_of (n := 58) Tryz.func94 rfl rfl (Nat.le_of_ble_eq_true rfl) (Nat.le_of_ble_eq_true rfl) fun C0 o hT hP => ?_
 refine AC_seq fun K1 hK1 => ?_
 refine AC_region ?_
 refine AL_ev (Ev_assign) rfl ?_
 refine AL_nil ?_
 refine hK1 _ _ _ ?_
 refine AC_seq fun K2 hK2 => ?_
 refine AC_region ?_
 refine AL_ev (Ev_move) rfl ?_
 refine AL_ev (Ev_move) rfl ?_
 refine AL_ev (Ev_nilc_ptr rfl) rfl ?_
 refine AL_ev (Ev_fa_ptr rfl fa94_2 rfl rfl) rfl ?_
 refine AL_ev (Ev_load_ptr rfl rfl rfl rfl rfl rfl ts3 ta3 rfl (fun _ => rfl)) rfl ?_
 refine AL_ev (Ev_mul rfl rfl _ rfl) rfl ?_
 refine AL_ev (Ev_add rfl rfl _ rfl) rfl ?_
 refine AL_ev (Ev_nilc_ptr rfl) rfl ?_
 refine AL_ev (Ev_fa_ptr rfl fa94_2 rfl rfl) rfl ?_
 refine AL_store rfl (nf rfl) rfl rfl rfl rfl rfl rfl (by rfl) ts3 rfl rfl ?_
 refine AL_nil ?_
 refine hK2 _ _ _ ?_
 refine AC_seq fun K3 hK3 => ?_
 refine AC_draw hT follows [0, 1, 2, 3, 4, 5, 6, 7, 8, 9, 10, 11, 12] (by kernel_rfl) ?_
 refine DT_ev rfl (EA_move) rfl ?_
 refine DT_ev rfl (EA_nilc_ptr rfl) rfl ?_
 refine DT_ev rfl (EA_fa_ptr rfl fa94_2 rfl rfl) rfl ?_
 refine DT_ev rfl (EA_load_ptr rfl rfl rfl rfl rfl rfl ts3 ta3 rfl (fun _ => rfl)) rfl ?_
 refine DT_ev rfl (EA_shr rfl rfl (by decide)) rfl ?_
 refine DT_ev rfl (EA_move) rfl ?_
 refine DT_ev rfl (EA_nilc_ptr rfl) rfl ?_
 refine DT_ev rfl (EA_fa_ptr rfl fa94_2 rfl rfl) rfl ?_
 refine DT_ev rfl (EA_load_ptr rfl rfl rfl rfl rfl rfl ts3 ta3 rfl (fun _ => rfl)) rfl ?_
 refine DT_ev rfl (EA_shr rfl rfl (by decide)) rfl ?_
 refine DT_ev rfl (EA_xor rfl rfl) rfl ?_
 refine DT_ev rfl (EA_and rfl rfl) rfl ?_
 refine DT_ev rfl (EA_assign) rfl ?_
 refine DTi.nil ?_
 refine hK3 _ _ _ ?_
 refine AC_seq fun K4 hK4 => ?_
 refine AC_seq fun K5 hK5 => ?_
 refine AC_draw hT follows [0, 1, 2, 3, 4, 5, 6, 7, 8, 9] (by kernel_rfl) ?_
 refine DT_ev rfl (EA_move) rfl ?_
 refine DT_ev rfl (EA_nilc_ptr rfl) rfl ?_
 refine DT_ev rfl (EA_fa_ptr rfl fa94_1 rfl rfl) rfl ?_
 refine DT_ev rfl (EA_load_ptr rfl rfl rfl rfl rfl rfl ts3 ta3 rfl (fun _ => rfl)) rfl ?_
 refine DT_ev rfl (EA_move) rfl ?_
 refine DT_ev rfl (EA_nilc_ptr rfl) rfl ?_
 refine DT_ev rfl (EA_fa_ptr rfl fa94_0 rfl rfl) rfl ?_
 refine DT_ev rfl (EA_load_ptr rfl rfl rfl rfl rfl rfl ts22 ta22 rfl (fun _ => rfl)) rfl ?_
 refine DT_ev rfl (EA_len_u8s te22 rfl) rfl ?_
 refine DT_ev rfl (EA_lss rfl rfl) rfl ?_
 refine DTi.nil ?_
 refine hK5 _ _ _ ?_
 refine AC_cond rfl (fun hc1 => ?_) (fun hc1 => ?_)
 ·have h2 : i < bs.length := by have := of_decide_eq_true hc1; omega
  obtain ⟨j, rfl⟩ : ∃ j : Nat, i = (j : Int) := ⟨i.toNat, by omega⟩
  obtain ⟨u, hu⟩ : ∃ u, bs[j]? = some u := ⟨_, List.getElem?_eq_getElem (by omega)⟩
  have hu2 := u8s_get hu
  refine AC_seq fun K6 hK6 => ?_
  refine AC_draw hT follows [0, 1, 2, 3, 4, 5, 6, 7, 8, 9, 10, 11, 12, 13, 14] (by kernel_rfl) ?_
  refine DT_ev rfl (EA_move) rfl ?_
  refine DT_ev rfl (EA_move) rfl ?_
  refine DT_ev rfl (EA_nilc_ptr rfl) rfl ?_
  refine DT_ev rfl (EA_fa_ptr rfl fa94_0 rfl rfl) rfl ?_
  refine DT_ev rfl (EA_load_ptr rfl rfl rfl rfl rfl rfl ts22 ta22 rfl (fun _ => rfl)) rfl ?_
  refine DT_ev rfl (EA_move) rfl ?_
  refine DT_ev rfl (EA_nilc_ptr rfl) rfl ?_
  refine DT_ev rfl (EA_fa_ptr rfl fa94_1 rfl rfl) rfl ?_
  refine DT_ev rfl (EA_load_ptr rfl rfl rfl rfl rfl rfl ts3 ta3 rfl (fun _ => rfl)) rfl ?_
  refine DT_ev rfl (EA_ix_sl rfl rfl te22 ts5 (by omega) (by assumption)) rfl ?_
  refine DT_ev rfl (EA_load_rp rfl rfl rfl ts5 ta5 rfl (fun _ => rfl)) rfl ?_
  refine DT_ev rfl (EA_conv_int tund5 tint3 rfl _ rfl) rfl ?_
  refine DT_ev rfl (EA_add rfl rfl _ rfl) rfl ?_
  refine DT_ev rfl (EA_and rfl rfl) rfl ?_
  refine DT_ev rfl (EA_assign) rfl ?_
  refine DTi.nil ?_
  refine hK6 _ _ _ ?_
  refine AC_region ?_
  refine AL_ev (Ev_move) rfl ?_
  refine AL_ev (Ev_move) rfl ?_
  refine AL_ev (Ev_nilc_ptr rfl) rfl ?_
  refine AL_ev (Ev_fa_ptr rfl fa94_1 rfl rfl) rfl ?_
  refine AL_ev (Ev_load_ptr rfl rfl rfl rfl rfl rfl ts3 ta3 rfl (fun _ => rfl)) rfl ?_
  refine AL_ev (Ev_add rfl rfl _ (wrap_id (by omega) (by omega))) rfl ?_
  refine AL_ev (Ev_nilc_ptr rfl) rfl ?_
  refine AL_ev (Ev_fa_ptr rfl fa94_1 rfl rfl) rfl ?_
  refine AL_store rfl (nf rfl) rfl rfl rfl rfl rfl rfl (by rfl) ts3 rfl rfl ?_
  refine AL_nil ?_
  refine hK4 _ _ _ ?_
  refine AC_seq fun K7 hK7 => ?_
  refine AC_region ?_
  refine AL_ev (Ev_move) rfl ?_
  refine AL_ev (Ev_assign) rfl ?_
  refine AL_nil ?_
  refine hK7 _ _ _ ?_
  refine AC_ret ?_
  exact retr_ok (_, _, _) ⟨(and255 _).1, (and255 _).2, by show 0 ≤ ((j : Nat) : Int) + 1; omega, by show ((j : Nat) : Int) + 1 ≤ _; omega⟩ [0] (CExt.refl _) (.tmp rfl rfl .nil) rfl rfl (BxF_stay rfl rfl rfl rfl rfl (.cons (.agg (.cons .d (.cons .d (.cons .d .nil)))) .nil) rfl BxF_nil) (Nat.le_refl _) (.cons .d .nil)
 ·refine AC_skip ?_
  refine hK4 _ _ _ ?_
  refine AC_seq fun K8 hK8 => ?_
  refine AC_region ?_
  refine AL_ev (Ev_move) rfl ?_
  refine AL_ev (Ev_assign) rfl ?_
  refine AL_nil ?_
  refine hK8 _ _ _ ?_
  refine AC_ret ?_
  exact retr_ok (_, _, _) ⟨(and255 _).1, (and255 _).2, h0, h1⟩ [0] (CExt.refl _) (.tmp rfl rfl .nil) rfl rfl (BxF_stay rfl rfl rfl rfl rfl (.cons (.agg (.cons .d (.cons .d (.cons .d .nil)))) .nil) rfl BxF_nil) (Nat.le_refl _) (.cons .d .nil)
theorem c_byte : DCall Tryz.prog 94 [] (fun r => ∃ x : Int, r = .c (.int .i64 x) ∧ 0 ≤ x ∧ x ≤ 255) :=
 DCall_of_box (A := Int) (Rq := fun bs x i h => 0 ≤ x ∧ x ≤ 255 ∧ 0 ≤ i ∧ i ≤ (bs.length : Int)) (res := fun x => .c (.int .i64 x)) (fun bs ty i h hl h0 h1 => c_byteB bs ty i h hl h0 h1) (fun bs x i h ⟨a, b, c, d⟩ => ⟨⟨x, rfl, a, b⟩, c, d⟩)
set_option maxHeartbeats 2000000 in
set_option maxRecDepth 4000 in
theorem c_new  : NewCur Tryz.prog 40 := by
 refine NewCur_of (n := 32) Tryz.func40 rfl rfl (Nat.le_of_ble_eq_true rfl) fun C bs hdm hT => ?_
 refine AC_seq fun K1 hK1 => ?_
 refine AC_region ?_
 refine AL_ev (Ev_assign) rfl ?_
 refine AL_nil ?_
 refine hK1 _ _ _ ?_
 refine AC_seq fun K2 hK2 => ?_
 refine AC_region ?_
 refine AL_ev (Ev_move) rfl ?_
 refine AL_lim (x := (Operand.tmp 5)) rfl fun hl1 => ?_
 try simp only [injs_length, ints_length, strs_length, injCs_length, u8s_length, List.length_map] at hl1
 refine AL_ev (Ev_len_u8s te22 rfl) rfl ?_
 refine AL_ev (Ev_add rfl rfl _ (wrap_id (by omega) (by omega))) rfl ?_
 refine AL_ev (Ev_assign) rfl ?_
 refine AL_nil ?_
 refine hK2 _ _ _ ?_
 refine AC_seq fun K3 hK3 => ?_
 refine AC_seq fun K4 hK4 => ?_
 refine AC_region ?_
 refine AL_ev (Ev_assign) rfl ?_
 refine AL_nil ?_
 refine hK4 _ _ _ ?_
 refine AC_block ?_
 refine AC_loopS [0] (Nat × Int) (fun ⟨j, h⟩ => [(4, i64 j), (3, i64 h)]) (fun ⟨j, h⟩ => []) (fun st => bs.length - st.1) (fun ⟨j, h⟩ => (j ≤ bs.length)) ((0, 95101 + (bs.length : Int))) ?_ ?_ ?_
 ·exact enterS [] rfl rfl BxTo_nil (SlTo_cons (by exact .rd .d) (SlTo_cons (by exact .rd .d) (SlTo_cons (by exact .rd .d) SlTo_nil)))
 ·exact Nat.zero_le _
 rintro ⟨j, h⟩ hj
 show AC _ _ _ _ _ (FS [0] _ [(4, i64 j), (3, i64 h)]) []
 refine AC_seq fun K5 hK5 => ?_
 refine AC_seq fun K6 hK6 => ?_
 refine AC_region ?_
 refine AL_ev (Ev_move) rfl ?_
 refine AL_ev (Ev_move) rfl ?_
 refine AL_lim (x := (Operand.tmp 9)) rfl fun hl2 => ?_
 try simp only [injs_length, ints_length, strs_length, injCs_length, u8s_length, List.length_map] at hl2
 refine AL_ev (Ev_len_u8s te22 rfl) rfl ?_
 refine AL_ev (Ev_lss rfl rfl) rfl ?_
 refine AL_ev (Ev_move) rfl ?_
 refine AL_bool 12 rfl (fun hg1 => ?_) (fun hg1 => ?_)
 ·have h1 : j < bs.length := by have := of_decide_eq_true hg1; omega
  obtain ⟨u, hu⟩ : ∃ u, bs[j]? = some u := ⟨_, List.getElem?_eq_getElem h1⟩
  have hu2 := u8s_get hu
  refine AL_guard_t rfl rfl rfl ?_
  refine AL_ev (Ev_move) rfl ?_
  refine AL_guard_t rfl rfl rfl ?_
  refine AL_ev (Ev_lss rfl rfl) rfl ?_
  refine AL_ev (Ev_pick rfl) rfl ?_
  refine AL_nil ?_
  refine hK6 _ _ _ ?_
  refine AC_cond rfl (fun hc2 => ?_) (fun hc2 => ?_)
  ·refine AC_skip ?_
   refine hK5 _ _ _ ?_
   refine AC_seq fun K7 hK7 => ?_
   refine AC_block ?_
   refine AC_region ?_
   refine AL_ev (Ev_move) rfl ?_
   refine AL_ev (Ev_mul rfl rfl _ rfl) rfl ?_
   refine AL_ev (Ev_move) rfl ?_
   refine AL_ev (Ev_move) rfl ?_
   refine AL_ev (Ev_ix_sl rfl rfl te22 ts5 (by omega) hu2) rfl ?_
   refine AL_ev (Ev_load_rp rfl rfl rfl ts5 ta5 rfl (fun _ => rfl)) rfl ?_
   refine AL_ev (Ev_conv_int tund5 tint3 rfl _ rfl) rfl ?_
   refine AL_ev (Ev_add rfl rfl _ rfl) rfl ?_
   refine AL_ev (Ev_add rfl rfl _ rfl) rfl ?_
   refine AL_ev (Ev_and rfl rfl) rfl ?_
   refine AL_ev (Ev_assign) rfl ?_
   refine AL_nil ?_
   refine hK7 _ _ _ ?_
   refine AC_region ?_
   refine AL_ev (Ev_move) rfl ?_
   refine AL_ev (Ev_add rfl rfl _ (wrap_id (by omega) (by omega))) rfl ?_
   refine AL_ev (Ev_assign) rfl ?_
   refine AL_nil ?_
   refine closeS (j + 1, IntKind.i64.wrap ((BitVec.ofInt IntKind.i64.bits (IntKind.i64.wrap (IntKind.i64.wrap (IntKind.i64.wrap (h * 131) + IntKind.i64.wrap u) + 7)) &&& BitVec.ofInt IntKind.i64.bits 1073741823).toNat : Int)) [] rfl rfl (by show bs.length - (j + 1) < bs.length - j; omega) ?_ BxTo_nil (SlTo_cons (by exact .rd .d) (SlTo_cons (by exact .rd .d) (SlTo_cons (by exact .rd .d) SlTo_nil)))
   show j + 1 ≤ bs.length; omega
  ·refine AC_exit ?_
   refine hK3 _ _ _ ?_
   refine AC_seq fun K8 hK8 => ?_
   refine AC_region ?_
   refine AL_ev (Ev_move) rfl ?_
   refine AL_ev (Ev_move) rfl ?_
   refine AL_ev (Ev_build (fs := [.one, .one, .one]) (zs := [.c (.slice none 0 0), .c (.int .i64 0), .c (.int .i64 0)]) tz94 rfl tpl94 (.cons rfl rfl (by rfl) (.cons rfl rfl (by rfl) .nil))) rfl ?_
   refine AL_box (Lay.st [.one, .one, .one]) (nf rfl) rfl (by rfl) _ rfl rfl ?_
   refine AL_ev (Ev_assign) rfl ?_
   refine AL_nil ?_
   refine hK8 _ _ _ ?_
   refine AC_ret ?_
   exact newcur_ok hdm (.tmp rfl rfl .nil) rfl (Int.le_refl 0) (by omega)
 ·refine AL_guard_f rfl rfl rfl rfl ?_
  refine AL_guard_f rfl rfl rfl rfl ?_
  refine AL_ev (Ev_pick rfl) rfl ?_
  refine AL_nil ?_
  refine hK6 _ _ _ ?_
  refine AC_cond_f rfl ?_
  refine AC_exit ?_
  refine hK3 _ _ _ ?_
  refine AC_seq fun K9 hK9 => ?_
  refine AC_region ?_
  refine AL_ev (Ev_move) rfl ?_
  refine AL_ev (Ev_move) rfl ?_
  refine AL_ev (Ev_build (fs := [.one, .one, .one]) (zs := [.c (.slice none 0 0), .c (.int .i64 0), .c (.int .i64 0)]) tz94 rfl tpl94 (.cons rfl rfl (by rfl) (.cons rfl rfl (by rfl) .nil))) rfl ?_
  refine AL_box (Lay.st [.one, .one, .one]) (nf rfl) rfl (by rfl) _ rfl rfl ?_
  refine AL_ev (Ev_assign) rfl ?_
  refine AL_nil ?_
  refine hK9 _ _ _ ?_
  refine AC_ret ?_
  exact newcur_ok hdm (.tmp rfl rfl .nil) rfl (Int.le_refl 0) (by omega)
set_option maxHeartbeats 1000000 in
set_option maxRecDepth 4000 in
theorem c_below (m : Int) (hm : m ≤ 4611686018427387904) : DCall Tryz.prog 59 [.c (.int .i64 m)] (fun r => ∃ x : Int, r = .c (.int .i64 x) ∧ 0 ≤ x ∧ (x < m ∨ x = 0)) := by
 refine DCall_of (n := 37) Tryz.func59 rfl rfl (Nat.le_of_ble_eq_true rfl) fun C0 b bs hdm hbl hT hcu => ?_
 have hM := Mk.refl C0 [b]
 refine AC_seq fun K1 hK1 => ?_
 refine AC_region ?_
 refine AL_ev (Ev_assign) rfl ?_
 refine AL_nil ?_
 refine hK1 _ _ _ ?_
 refine AC_seq fun K2 hK2 => ?_
 refine AC_seq fun K3 hK3 => ?_
 refine AC_region ?_
 refine AL_ev (Ev_move) rfl ?_
 refine AL_ev (Ev_leq rfl rfl) rfl ?_
 refine AL_nil ?_
 refine hK3 _ _ _ ?_
 refine AC_cond rfl (fun hc1 => ?_) (fun hc1 => ?_)
 ·have h1 := of_decide_eq_true hc1
  refine AC_seq fun K4 hK4 => ?_
  refine AC_region ?_
  refine AL_ev (Ev_assign) rfl ?_
  refine AL_nil ?_
  refine hK4 _ _ _ ?_
  refine AC_ret ?_
  exact retd_ok hM hcu hdm (.tmp rfl rfl .nil) .d ⟨0, rfl, Int.le_refl 0, .inr rfl⟩
 ·have h1 : 0 < m := by have := of_decide_eq_false hc1; omega
  refine AC_skip ?_
  refine hK2 _ _ _ ?_
  refine AC_seq fun K5 hK5 => ?_
  refine AC_seq fun K6 hK6 => ?_
  refine AC_region ?_
  refine AL_ev (Ev_move) rfl ?_
  refine AL_ev (Ev_leq rfl rfl) rfl ?_
  refine AL_nil ?_
  refine hK6 _ _ _ ?_
  refine AC_cond rfl (fun hc2 => ?_) (fun hc2 => ?_)
  ·refine AC_seq fun K7 hK7 => ?_
   refine AC_region ?_
   refine AL_ev (Ev_move) rfl ?_
   refine AL_dcall hT hcu hbl rfl cl94 (c_byte) rfl rfl rfl fun C1 r1 hR1 hM1 hcu hT => ?_
   have hM := hM.trans hM1 (fun c hc _ => hc)
   obtain ⟨x1, rfl, hx1, hy1⟩ := hR1
   refine AL_ev (Ev_move) rfl ?_
   refine AL_ev (Ev_rem rfl rfl (by omega)) rfl ?_
   refine AL_ev (Ev_assign) rfl ?_
   refine AL_nil ?_
   refine hK7 _ _ _ ?_
   refine AC_ret ?_
   exact retd_ok hM hcu hdm (.tmp rfl rfl .nil) .d ⟨_, rfl, Int.tmod_nonneg _ hx1, .inl (Int.tmod_lt_of_pos _ h1)⟩
  ·refine AC_skip ?_
   refine hK5 _ _ _ ?_
   refine AC_seq fun K8 hK8 => ?_
   refine AC_region ?_
   refine AL_ev (Ev_move) rfl ?_
   refine AL_dcall hT hcu hbl rfl cl94 (c_byte) rfl rfl rfl fun C2 r2 hR2 hM2 hcu hT => ?_
   have hM := hM.trans hM2 (fun c hc _ => hc)
   obtain ⟨x2, rfl, hx2, hy2⟩ := hR2
   refine AL_ev (Ev_assign) rfl ?_
   refine AL_nil ?_
   refine hK8 _ _ _ ?_
   refine AC_seq fun K9 hK9 => ?_
   refine AC_region ?_
   refine AL_ev (Ev_move) rfl ?_
   refine AL_dcall hT hcu hbl rfl cl94 (c_byte) rfl rfl rfl fun C3 r3 hR3 hM3 hcu hT => ?_
   have hM := hM.trans hM3 (fun c hc _ => hc)
   obtain ⟨x3, rfl, hx3, hy3⟩ := hR3
   refine AL_ev (Ev_assign) rfl ?_
   refine AL_nil ?_
   refine hK9 _ _ _ ?_
   refine AC_seq fun K10 hK10 => ?_
   refine AC_region ?_
   refine AL_ev (Ev_move) rfl ?_
   refine AL_dcall hT hcu hbl rfl cl94 (c_byte) rfl rfl rfl fun C4 r4 hR4 hM4 hcu hT => ?_
   have hM := hM.trans hM4 (fun c hc _ => hc)
   obtain ⟨x4, rfl, hx4, hy4⟩ := hR4
   refine AL_ev (Ev_assign) rfl ?_
   refine AL_nil ?_
   refine hK10 _ _ _ ?_
   refine AC_seq fun K11 hK11 => ?_
   refine AC_region ?_
   refine AL_ev (Ev_move) rfl ?_
   refine AL_dcall hT hcu hbl rfl cl94 (c_byte) rfl rfl rfl fun C5 r5 hR5 hM5 hcu hT => ?_
   have hM := hM.trans hM5 (fun c hc _ => hc)
   obtain ⟨x5, rfl, hx5, hy5⟩ := hR5
   refine AL_ev (Ev_assign) rfl ?_
   refine AL_nil ?_
   refine hK11 _ _ _ ?_
   refine AC_seq fun K12 hK12 => ?_
   refine AC_region ?_
   refine AL_ev (Ev_move) rfl ?_
   refine AL_ev (Ev_mul rfl rfl _ (wrap_id (by omega) (by omega))) rfl ?_
   refine AL_ev (Ev_move) rfl ?_
   refine AL_ev (Ev_mul rfl rfl _ (wrap_id (by omega) (by omega))) rfl ?_
   refine AL_ev (Ev_add rfl rfl _ (wrap_id (by omega) (by omega))) rfl ?_
   refine AL_ev (Ev_move) rfl ?_
   refine AL_ev (Ev_mul rfl rfl _ (wrap_id (by omega) (by omega))) rfl ?_
   refine AL_ev (Ev_add rfl rfl _ (wrap_id (by omega) (by omega))) rfl ?_
   refine AL_ev (Ev_move) rfl ?_
   refine AL_ev (Ev_add rfl rfl _ (wrap_id (by omega) (by omega))) rfl ?_
   refine AL_ev (Ev_move) rfl ?_
   refine AL_ev (Ev_rem rfl rfl (by omega)) rfl ?_
   refine AL_ev (Ev_assign) rfl ?_
   refine AL_nil ?_
   refine hK12 _ _ _ ?_
   refine AC_ret ?_
   exact retd_ok hM hcu hdm (.tmp rfl rfl .nil) .d ⟨_, rfl, Int.tmod_nonneg _ (by omega), .inl (Int.tmod_lt_of_pos _ h1)⟩
set_option maxHeartbeats 1000000 in
set_option maxRecDepth 4000 in
theorem c_onceD (m : Int) (hm : m ≤ 4611686018427387904) : DCall Tryz.prog 56 [.c (.int .i64 m)] (fun r => ∃ x : Bool, r = .c (.bool x)) := by
 refine DCall_of (n := 9) Tryz.func56 rfl rfl (Nat.le_of_ble_eq_true rfl) fun C0 b bs hdm hbl hT hcu => ?_
 have hM := Mk.refl C0 [b]
 refine AC_seq fun K1 hK1 => ?_
 refine AC_region ?_
 refine AL_ev (Ev_assign) rfl ?_
 refine AL_nil ?_
 refine hK1 _ _ _ ?_
 refine AC_seq fun K2 hK2 => ?_
 refine AC_region ?_
 refine AL_ev (Ev_move) rfl ?_
 refine AL_ev (Ev_move) rfl ?_
 refine AL_dcall hT hcu hbl rfl cl59 (c_below m hm) rfl rfl rfl fun C1 r1 hR1 hM1 hcu hT => ?_
 have hM := hM.trans hM1 (fun c hc _ => hc)
 obtain ⟨x1, rfl, hx1, hy1⟩ := hR1
 refine AL_ev (Ev_eql rfl rfl) rfl ?_
 refine AL_ev (Ev_assign) rfl ?_
 refine AL_nil ?_
 refine hK2 _ _ _ ?_
 refine AC_ret ?_
 exact retd_ok hM hcu hdm (.tmp rfl rfl .nil) .d ⟨_, rfl⟩
set_option maxHeartbeats 1000000 in
set_option maxRecDepth 4000 in
theorem c_pick (xs : List ByteArray) (h0 : 0 < xs.length) : DCall Tryz.prog 83 [.sl .one (strs xs)] (fun r => ∃ s ∈ xs, r = .c (.string s)) := by
 refine DCall_of (n := 12) Tryz.func83 rfl rfl (Nat.le_of_ble_eq_true rfl) fun C0 b bs hdm hbl hT hcu => ?_
 have hM := Mk.refl C0 [b]
 refine AC_seq fun K1 hK1 => ?_
 refine AC_region ?_
 refine AL_ev (Ev_assign) rfl ?_
 refine AL_nil ?_
 refine hK1 _ _ _ ?_
 refine AC_seq fun K2 hK2 => ?_
 refine AC_region ?_
 refine AL_ev (Ev_move) rfl ?_
 refine AL_ev (Ev_move) rfl ?_
 refine AL_ev (Ev_move) rfl ?_
 refine AL_lim (x := (Operand.tmp 7)) rfl fun hl1 => ?_
 try simp only [injs_length, ints_length, strs_length, injCs_length, u8s_length, List.length_map] at hl1
 refine AL_ev (Ev_len_strs te25 rfl) rfl ?_
 refine AL_dcall hT hcu hbl rfl cl59 (c_below xs.length (by omega)) rfl rfl rfl fun C1 r1 hR1 hM1 hcu hT => ?_
 have hM := hM.trans hM1 (fun c hc _ => hc)
 obtain ⟨x1, rfl, hx1, hy1⟩ := hR1
 obtain ⟨j, rfl⟩ : ∃ j : Nat, x1 = (j : Int) := ⟨x1.toNat, by omega⟩
 obtain ⟨u, hu⟩ : ∃ u, xs[j]? = some u := ⟨_, List.getElem?_eq_getElem (by omega)⟩
 have hu2 := strs_get hu
 refine AL_ev (Ev_ix_sl rfl rfl te25 ts9 (by omega) (by assumption)) rfl ?_
 refine AL_ev (Ev_load_rp rfl rfl rfl ts9 ta9 rfl (fun _ => rfl)) rfl ?_
 refine AL_ev (Ev_assign) rfl ?_
 refine AL_nil ?_
 refine hK2 _ _ _ ?_
 refine AC_ret ?_
 exact retd_ok hM hcu hdm (.tmp rfl rfl .nil) .d ⟨u, List.mem_of_getElem? hu, rfl⟩
set_option maxHeartbeats 1000000 in
set_option maxRecDepth 4000 in
theorem c_var03 (m : Int) : PCall Tryz.prog 118 [.c (.int .i64 m)] (· = [inj (.mk 1 ⟨#[]⟩ m [])]) := by
 refine PCall_of (n := 5) Tryz.func118 rfl rfl (Nat.le_of_ble_eq_true rfl) fun C hdm hT0 => ?_
 have hT := hT0
 refine AC_seq fun K1 hK1 => ?_
 refine AC_region ?_
 refine AL_alloc zo41 _ rfl rfl ?_
 refine AL_nil ?_
 refine hK1 _ _ _ ?_
 refine AC_seq fun K2 hK2 => ?_
 refine AC_region ?_
 refine AL_ev (Ev_move) rfl ?_
 refine AL_ev (Ev_build (fs := [.one, .one, .one, .one]) (zs := [.c (.int .i64 0), .c (.string ⟨#[]⟩), .c (.int .i64 0), .c (.slice none 0 0)]) tz41 rfl tpl41 (.cons rfl rfl (by rfl) (.cons rfl rfl (by rfl) .nil))) rfl ?_
 refine AL_store rfl (nf rfl) rfl rfl rfl rfl rfl rfl (by rfl) ts41 rfl rfl ?_
 refine AL_nil ?_
 refine hK2 _ _ _ ?_
 refine AC_ret ?_
 exact ret_ok hdm (.cell rfl rfl rfl rfl rfl rfl ts41 ta41 rfl (by intro h; cases h) .nil) (.cons (.agg (.cons .d (.cons .d (.cons .d (.cons .nil .nil))))) .nil) rfl
set_option maxHeartbeats 1000000 in
set_option maxRecDepth 4000 in
theorem c_num03 (m : Int) : PCall Tryz.prog 119 [.c (.int .i64 m)] (· = [inj (.mk 3 ⟨#[]⟩ m [])]) := by
 refine PCall_of (n := 5) Tryz.func119 rfl rfl (Nat.le_of_ble_eq_true rfl) fun C hdm hT0 => ?_
 have hT := hT0
 refine AC_seq fun K1 hK1 => ?_
 refine AC_region ?_
 refine AL_alloc zo41 _ rfl rfl ?_
 refine AL_nil ?_
 refine hK1 _ _ _ ?_
 refine AC_seq fun K2 hK2 => ?_
 refine AC_region ?_
 refine AL_ev (Ev_move) rfl ?_
 refine AL_ev (Ev_build (fs := [.one, .one, .one, .one]) (zs := [.c (.int .i64 0), .c (.string ⟨#[]⟩), .c (.int .i64 0), .c (.slice none 0 0)]) tz41 rfl tpl41 (.cons rfl rfl (by rfl) (.cons rfl rfl (by rfl) .nil))) rfl ?_
 refine AL_store rfl (nf rfl) rfl rfl rfl rfl rfl rfl (by rfl) ts41 rfl rfl ?_
 refine AL_nil ?_
 refine hK2 _ _ _ ?_
 refine AC_ret ?_
 exact ret_ok hdm (.cell rfl rfl rfl rfl rfl rfl ts41 ta41 rfl (by intro h; cases h) .nil) (.cons (.agg (.cons .d (.cons .d (.cons .d (.cons .nil .nil))))) .nil) rfl
set_option maxHeartbeats 1000000 in
set_option maxRecDepth 4000 in
theorem c_atom03 (s : ByteArray) : PCall Tryz.prog 58 [.c (.string s)] (· = [inj (.mk 2 s 0 [])]) := by
 refine PCall_of (n := 5) Tryz.func58 rfl rfl (Nat.le_of_ble_eq_true rfl) fun C hdm hT0 => ?_
 have hT := hT0
 refine AC_seq fun K1 hK1 => ?_
 refine AC_region ?_
 refine AL_alloc zo41 _ rfl rfl ?_
 refine AL_nil ?_
 refine hK1 _ _ _ ?_
 refine AC_seq fun K2 hK2 => ?_
 refine AC_region ?_
 refine AL_ev (Ev_move) rfl ?_
 refine AL_ev (Ev_build (fs := [.one, .one, .one, .one]) (zs := [.c (.int .i64 0), .c (.string ⟨#[]⟩), .c (.int .i64 0), .c (.slice none 0 0)]) tz41 rfl tpl41 (.cons rfl rfl (by rfl) (.cons rfl rfl (by rfl) .nil))) rfl ?_
 refine AL_store rfl (nf rfl) rfl rfl rfl rfl rfl rfl (by rfl) ts41 rfl rfl ?_
 refine AL_nil ?_
 refine hK2 _ _ _ ?_
 refine AC_ret ?_
 exact ret_ok hdm (.cell rfl rfl rfl rfl rfl rfl ts41 ta41 rfl (by intro h; cases h) .nil) (.cons (.agg (.cons .d (.cons .d (.cons .d (.cons .nil .nil))))) .nil) rfl
end Go.Proofs.YtjgliechbnommaaGreatDoor
set_option linter.unusedVariables false
set_option linter.unusedSimpArgs false
namespace Go.Proofs.YtjgliechbnommaaGreatDoor
open Go.Eng
theorem tz161 : tyZero Tryz.prog 161 = some (some (.agg #[.string ⟨#[]⟩, .int .i64 0, .int .i64 0, .int .i64 0])) := by kernel_rfl
theorem cl118 : Callable Tryz.prog 118 := Callable_of Tryz.func118 (by kernel_rfl) (by kernel_rfl)
theorem cl140 : Callable Tryz.prog 140 := Callable_of Tryz.func140 (by kernel_rfl) (by kernel_rfl)
theorem cl173 : Callable Tryz.prog 173 := Callable_of Tryz.func173 (by kernel_rfl) (by kernel_rfl)
theorem fa139_3 : tyField Tryz.prog 139 3 = some (3, true) := by kernel_rfl
theorem fa145_0 : tyField Tryz.prog 145 0 = some (0, true) := by kernel_rfl
theorem fa145_1 : tyField Tryz.prog 145 1 = some (1, true) := by kernel_rfl
theorem fa145_2 : tyField Tryz.prog 145 2 = some (2, true) := by kernel_rfl
theorem fa145_4 : tyField Tryz.prog 145 4 = some (4, true) := by kernel_rfl
theorem ta119 : tyAgg Tryz.prog 119 = some false := by kernel_rfl
theorem ta161 : tyAgg Tryz.prog 161 = some true := by kernel_rfl
theorem ta4 : tyAgg Tryz.prog 4 = some false := by kernel_rfl
theorem te119 : tyElem Tryz.prog 119 = some 139 := by kernel_rfl
theorem tpl161 : tyPlaces Tryz.prog 161 = some (layPlaces 0 [.one, .one, .one, .one]) := by kernel_rfl
theorem ts119 : tySize Tryz.prog 119 = some 1 := by kernel_rfl
theorem ts161 : tySize Tryz.prog 161 = some 4 := by kernel_rfl
theorem ts4 : tySize Tryz.prog 4 = some 1 := by kernel_rfl
theorem zo161 : ZeroOf Tryz.prog 161 (Lay.st [.one, .one, .one, .one]) (.d (.agg [.one, .one, .one, .one] [.c (.string ⟨#[]⟩), .c (.int .i64 0), .c (.int .i64 0), .c (.int .i64 0)])) := ⟨_, tz161, rfl, fun _ _ _ => VC_cells rfl⟩
set_option maxHeartbeats 1000000 in
set_option maxRecDepth 4000 in
theorem c_is (xs : List Sg) (s : Rs) (k : Int) (w : ByteArray) (hl : xs.length ≤ 1099511627776) : PCall Tryz.prog 140 [.rp LRD (injR xs s) [], .c (.int .i64 k), .c (.string w)] (· = [.c (.bool (isM xs s k w))]) := by
 refine PCall_of (n := 58) Tryz.func140 rfl rfl (Nat.le_of_ble_eq_true rfl) fun C hdm hT0 => ?_
 have hT := hT0
 refine AC_seq fun K1 hK1 => ?_
 refine AC_region ?_
 refine AL_ev (Ev_assign) rfl ?_
 refine AL_nil ?_
 refine hK1 _ _ _ ?_
 refine AC_seq fun K2 hK2 => ?_
 refine AC_draw hT follows [0, 1, 2, 3, 4, 5, 6, 7, 8, 9, 10, 11, 12, 13, 14, 15, 16, 17, 18, 19, 20, 21, 22, 23, 24, 25, 26, 27, 28, 29, 30, 31, 32, 33, 34, 35, 36, 37, 38, 39, 40, 41, 42, 43, 44, 45, 46, 47, 48, 49, 50, 51] (by kernel_rfl) ?_
 refine DT_ev rfl (EA_move) rfl ?_
 refine DT_ev rfl (EA_nilc_rp rfl) rfl ?_
 refine DT_ev rfl (EA_fa_rp rfl fa145_2 rfl rfl) rfl ?_
 refine DT_ev rfl (EA_load_rp rfl rfl rfl ts4 ta4 rfl (fun _ => rfl)) rfl ?_
 refine DT_ev rfl (EA_not rfl) rfl ?_
 refine DT_ev rfl (EA_move) rfl ?_
 refine DT_bool 12 rfl (fun hg1 => ?_) (fun hg1 => ?_)
 ·refine DT_evt rfl rfl rfl rfl (EA_move) rfl ?_
  refine DT_evt rfl rfl rfl rfl (EA_nilc_rp rfl) rfl ?_
  refine DT_evt rfl rfl rfl rfl (EA_fa_rp rfl fa145_1 rfl rfl) rfl ?_
  refine DT_evt rfl rfl rfl rfl (EA_load_rp rfl rfl rfl ts3 ta3 rfl (fun _ => rfl)) rfl ?_
  refine DT_evt rfl rfl rfl rfl (EA_move) rfl ?_
  refine DT_evt rfl rfl rfl rfl (EA_nilc_rp rfl) rfl ?_
  refine DT_evt rfl rfl rfl rfl (EA_fa_rp rfl fa145_0 rfl rfl) rfl ?_
  refine DT_evt rfl rfl rfl rfl (EA_load_rp rfl rfl rfl ts119 ta119 rfl (fun _ => rfl)) rfl ?_
  refine DT_evt rfl rfl rfl rfl (EA_len_sl te119 rfl) rfl ?_
  refine DT_evt rfl rfl rfl rfl (EA_lss rfl rfl) rfl ?_
  refine DT_ev rfl (EA_pick rfl) rfl ?_
  refine DT_ev rfl (EA_move) rfl ?_
  refine DT_bool 24 rfl (fun hg2 => ?_) (fun hg2 => ?_)
  ·simp only [injGs_length] at hg2
   have hlt : s.i < xs.length := by have := of_decide_eq_true hg2; omega
   refine Exists.elim (show ∃ v, xs[s.i]? = some v from ⟨_, List.getElem?_eq_getElem (by omega)⟩) fun g hg => ?_
   have hg2 := injGs_get hg
   refine DT_evt rfl rfl rfl rfl (EA_move) rfl ?_
   refine DT_evt rfl rfl rfl rfl (EA_nilc_rp rfl) rfl ?_
   refine DT_evt rfl rfl rfl rfl (EA_fa_rp rfl fa145_0 rfl rfl) rfl ?_
   refine DT_evt rfl rfl rfl rfl (EA_load_rp rfl rfl rfl ts119 ta119 rfl (fun _ => rfl)) rfl ?_
   refine DT_evt rfl rfl rfl rfl (EA_move) rfl ?_
   refine DT_evt rfl rfl rfl rfl (EA_nilc_rp rfl) rfl ?_
   refine DT_evt rfl rfl rfl rfl (EA_fa_rp rfl fa145_1 rfl rfl) rfl ?_
   refine DT_evt rfl rfl rfl rfl (EA_load_rp rfl rfl rfl ts3 ta3 rfl (fun _ => rfl)) rfl ?_
   refine DT_evt rfl rfl rfl rfl (EA_ix_sl rfl rfl te119 ts139 (by omega) (by assumption)) rfl ?_
   refine DT_evt rfl rfl rfl rfl (EA_fa_rp rfl fa139_0 rfl rfl) rfl ?_
   refine DT_evt rfl rfl rfl rfl (EA_load_rp rfl rfl rfl ts3 ta3 rfl (fun _ => rfl)) rfl ?_
   refine DT_evt rfl rfl rfl rfl (EA_move) rfl ?_
   refine DT_evt rfl rfl rfl rfl (EA_eql rfl rfl) rfl ?_
   refine DT_ev rfl (EA_pick rfl) rfl ?_
   refine DT_ev rfl (EA_move) rfl ?_
   refine DT_bool 39 rfl (fun hg3 => ?_) (fun hg3 => ?_)
   ·refine DT_evt rfl rfl rfl rfl (EA_move) rfl ?_
    refine DT_evt rfl rfl rfl rfl (EA_seql rfl rfl) rfl ?_
    refine DT_evt rfl rfl rfl rfl (EA_move) rfl ?_
    refine DT_bool 42 rfl (fun hg4 => ?_) (fun hg4 => ?_)
    ·refine DT_f rfl rfl rfl rfl rfl ?_
     refine DT_f rfl rfl rfl rfl rfl ?_
     refine DT_f rfl rfl rfl rfl rfl ?_
     refine DT_f rfl rfl rfl rfl rfl ?_
     refine DT_f rfl rfl rfl rfl rfl ?_
     refine DT_f rfl rfl rfl rfl rfl ?_
     refine DT_f rfl rfl rfl rfl rfl ?_
     refine DT_f rfl rfl rfl rfl rfl ?_
     refine DT_f rfl rfl rfl rfl rfl ?_
     refine DT_f rfl rfl rfl rfl rfl ?_
     refine DT_f rfl rfl rfl rfl rfl ?_
     refine DT_f rfl rfl rfl rfl rfl ?_
     refine DT_f rfl rfl rfl rfl rfl ?_
     refine DT_evt rfl rfl rfl rfl (EA_pick rfl) rfl ?_
     refine DT_ev rfl (EA_pick rfl) rfl ?_
     refine DT_ev rfl (EA_assign) rfl ?_
     refine DTi.nil ?_
     refine hK2 _ _ _ ?_
     refine AC_ret ?_
     refine ret_ok hdm (.tmp rfl rfl .nil) (.cons .d .nil) ?_
     (simp_all [isM]; done)
    ·refine DT_evt rfl rfl rfl rfl (EA_move) rfl ?_
     refine DT_evt rfl rfl rfl rfl (EA_nilc_rp rfl) rfl ?_
     refine DT_evt rfl rfl rfl rfl (EA_fa_rp rfl fa145_0 rfl rfl) rfl ?_
     refine DT_evt rfl rfl rfl rfl (EA_load_rp rfl rfl rfl ts119 ta119 rfl (fun _ => rfl)) rfl ?_
     refine DT_evt rfl rfl rfl rfl (EA_move) rfl ?_
     refine DT_evt rfl rfl rfl rfl (EA_nilc_rp rfl) rfl ?_
     refine DT_evt rfl rfl rfl rfl (EA_fa_rp rfl fa145_1 rfl rfl) rfl ?_
     refine DT_evt rfl rfl rfl rfl (EA_load_rp rfl rfl rfl ts3 ta3 rfl (fun _ => rfl)) rfl ?_
     refine DT_evt rfl rfl rfl rfl (EA_ix_sl rfl rfl te119 ts139 (by omega) (by assumption)) rfl ?_
     refine DT_evt rfl rfl rfl rfl (EA_fa_rp rfl fa139_1 rfl rfl) rfl ?_
     refine DT_evt rfl rfl rfl rfl (EA_load_rp rfl rfl rfl ts9 ta9 rfl (fun _ => rfl)) rfl ?_
     refine DT_evt rfl rfl rfl rfl (EA_move) rfl ?_
     refine DT_evt rfl rfl rfl rfl (EA_seql rfl rfl) rfl ?_
     refine DT_evt rfl rfl rfl rfl (EA_pick rfl) rfl ?_
     refine DT_ev rfl (EA_pick rfl) rfl ?_
     refine DT_ev rfl (EA_assign) rfl ?_
     refine DTi.nil ?_
     refine hK2 _ _ _ ?_
     refine AC_ret ?_
     refine ret_ok hdm (.tmp rfl rfl .nil) (.cons .d .nil) ?_
     (simp_all [isM]; done)
   ·refine DT_f rfl rfl rfl rfl rfl ?_
    refine DT_f rfl rfl rfl rfl rfl ?_
    refine DT_f rfl rfl rfl rfl rfl ?_
    refine DT_u rfl rfl rfl rfl rfl ?_
    refine DT_u rfl rfl rfl rfl rfl ?_
    refine DT_u rfl rfl rfl rfl rfl ?_
    refine DT_u rfl rfl rfl rfl rfl ?_
    refine DT_u rfl rfl rfl rfl rfl ?_
    refine DT_u rfl rfl rfl rfl rfl ?_
    refine DT_u rfl rfl rfl rfl rfl ?_
    refine DT_u rfl rfl rfl rfl rfl ?_
    refine DT_u rfl rfl rfl rfl rfl ?_
    refine DT_u rfl rfl rfl rfl rfl ?_
    refine DT_u rfl rfl rfl rfl rfl ?_
    refine DT_u rfl rfl rfl rfl rfl ?_
    refine DT_u rfl rfl rfl rfl rfl ?_
    refine DT_f rfl rfl rfl rfl rfl ?_
    refine DT_ev rfl (EA_pick rfl) rfl ?_
    refine DT_ev rfl (EA_assign) rfl ?_
    refine DTi.nil ?_
    refine hK2 _ _ _ ?_
    refine AC_ret ?_
    refine ret_ok hdm (.tmp rfl rfl .nil) (.cons .d .nil) ?_
    (simp_all [isM]; done)
  ·simp only [injGs_length] at hg2
   have hlt : ¬ s.i < xs.length := by have := of_decide_eq_false hg2; omega
   have hno : xs[s.i]? = none := List.getElem?_eq_none (by omega)
   refine DT_f rfl rfl rfl rfl rfl ?_
   refine DT_f rfl rfl rfl rfl rfl ?_
   refine DT_f rfl rfl rfl rfl rfl ?_
   refine DT_f rfl rfl rfl rfl rfl ?_
   refine DT_f rfl rfl rfl rfl rfl ?_
   refine DT_f rfl rfl rfl rfl rfl ?_
   refine DT_f rfl rfl rfl rfl rfl ?_
   refine DT_f rfl rfl rfl rfl rfl ?_
   refine DT_f rfl rfl rfl rfl rfl ?_
   refine DT_f rfl rfl rfl rfl rfl ?_
   refine DT_f rfl rfl rfl rfl rfl ?_
   refine DT_f rfl rfl rfl rfl rfl ?_
   refine DT_f rfl rfl rfl rfl rfl ?_
   refine DT_ev rfl (EA_pick rfl) rfl ?_
   refine DT_ev rfl (EA_move) rfl ?_
   refine DT_f rfl rfl rfl rfl rfl ?_
   refine DT_f rfl rfl rfl rfl rfl ?_
   refine DT_f rfl rfl rfl rfl rfl ?_
   refine DT_u rfl rfl rfl rfl rfl ?_
   refine DT_u rfl rfl rfl rfl rfl ?_
   refine DT_u rfl rfl rfl rfl rfl ?_
   refine DT_u rfl rfl rfl rfl rfl ?_
   refine DT_u rfl rfl rfl rfl rfl ?_
   refine DT_u rfl rfl rfl rfl rfl ?_
   refine DT_u rfl rfl rfl rfl rfl ?_
   refine DT_u rfl rfl rfl rfl rfl ?_
   refine DT_u rfl rfl rfl rfl rfl ?_
   refine DT_u rfl rfl rfl rfl rfl ?_
   refine DT_u rfl rfl rfl rfl rfl ?_
   refine DT_u rfl rfl rfl rfl rfl ?_
   refine DT_u rfl rfl rfl rfl rfl ?_
   refine DT_f rfl rfl rfl rfl rfl ?_
   refine DT_ev rfl (EA_pick rfl) rfl ?_
   refine DT_ev rfl (EA_assign) rfl ?_
   refine DTi.nil ?_
   refine hK2 _ _ _ ?_
   refine AC_ret ?_
   refine ret_ok hdm (.tmp rfl rfl .nil) (.cons .d .nil) ?_
   (simp_all [isM]; done)
 ·refine DT_f rfl rfl rfl rfl rfl ?_
  refine DT_f rfl rfl rfl rfl rfl ?_
  refine DT_f rfl rfl rfl rfl rfl ?_
  refine DT_f rfl rfl rfl rfl rfl ?_
  refine DT_f rfl rfl rfl rfl rfl ?_
  refine DT_f rfl rfl rfl rfl rfl ?_
  refine DT_f rfl rfl rfl rfl rfl ?_
  refine DT_f rfl rfl rfl rfl rfl ?_
  refine DT_f rfl rfl rfl rfl rfl ?_
  refine DT_f rfl rfl rfl rfl rfl ?_
  refine DT_ev rfl (EA_pick rfl) rfl ?_
  refine DT_ev rfl (EA_move) rfl ?_
  refine DT_f rfl rfl rfl rfl rfl ?_
  refine DT_f rfl rfl rfl rfl rfl ?_
  refine DT_f rfl rfl rfl rfl rfl ?_
  refine DT_f rfl rfl rfl rfl rfl ?_
  refine DT_f rfl rfl rfl rfl rfl ?_
  refine DT_f rfl rfl rfl rfl rfl ?_
  refine DT_f rfl rfl rfl rfl rfl ?_
  refine DT_f rfl rfl rfl rfl rfl ?_
  refine DT_f rfl rfl rfl rfl rfl ?_
  refine DT_f rfl rfl rfl rfl rfl ?_
  refine DT_f rfl rfl rfl rfl rfl ?_
  refine DT_f rfl rfl rfl rfl rfl ?_
  refine DT_f rfl rfl rfl rfl rfl ?_
  refine DT_ev rfl (EA_pick rfl) rfl ?_
  refine DT_ev rfl (EA_move) rfl ?_
  refine DT_f rfl rfl rfl rfl rfl ?_
  refine DT_f rfl rfl rfl rfl rfl ?_
  refine DT_f rfl rfl rfl rfl rfl ?_
  refine DT_u rfl rfl rfl rfl rfl ?_
  refine DT_u rfl rfl rfl rfl rfl ?_
  refine DT_u rfl rfl rfl rfl rfl ?_
  refine DT_u rfl rfl rfl rfl rfl ?_
  refine DT_u rfl rfl rfl rfl rfl ?_
  refine DT_u rfl rfl rfl rfl rfl ?_
  refine DT_u rfl rfl rfl rfl rfl ?_
  refine DT_u rfl rfl rfl rfl rfl ?_
  refine DT_u rfl rfl rfl rfl rfl ?_
  refine DT_u rfl rfl rfl rfl rfl ?_
  refine DT_u rfl rfl rfl rfl rfl ?_
  refine DT_u rfl rfl rfl rfl rfl ?_
  refine DT_u rfl rfl rfl rfl rfl ?_
  refine DT_f rfl rfl rfl rfl rfl ?_
  refine DT_ev rfl (EA_pick rfl) rfl ?_
  refine DT_ev rfl (EA_assign) rfl ?_
  refine DTi.nil ?_
  refine hK2 _ _ _ ?_
  refine AC_ret ?_
  refine ret_ok hdm (.tmp rfl rfl .nil) (.cons .d .nil) ?_
  (simp_all [isM]; done)
set_option maxHeartbeats 1000000 in
set_option maxRecDepth 4000 in
theorem c_near (xs : List Sg) (s : Rs) (hl : xs.length ≤ 1099511627776) (hi : s.i < xs.length) (hp : ∀ g ∈ xs, 0 ≤ g.p ∧ g.p ≤ 1099511627776) : PCall Tryz.prog 184 [.rp LRD (injR xs s) []] (· = [.c (.bool (nearM xs s))]) := by
 refine PCall_of (n := 56) Tryz.func184 rfl rfl (Nat.le_of_ble_eq_true rfl) fun C hdm hT0 => ?_
 have hT := hT0
 refine AC_seq fun K1 hK1 => ?_
 refine AC_region ?_
 refine AL_ev (Ev_assign) rfl ?_
 refine AL_nil ?_
 refine hK1 _ _ _ ?_
 refine AC_seq fun K2 hK2 => ?_
 refine AC_draw hT follows [0, 1, 2, 3, 4, 5, 6, 7, 8, 9, 10, 11, 12, 13, 14, 15, 16, 17, 18, 19, 20, 21, 22, 23, 24, 25, 26, 27, 28, 29, 30, 31, 32, 33, 34, 35, 36, 37, 38, 39, 40, 41, 42, 43, 44, 45, 46, 47, 48, 49, 50, 51, 52, 53] (by kernel_rfl) ?_
 refine DT_ev rfl (EA_move) rfl ?_
 refine DT_ev rfl (EA_nilc_rp rfl) rfl ?_
 refine DT_ev rfl (EA_fa_rp rfl fa145_1 rfl rfl) rfl ?_
 refine DT_ev rfl (EA_load_rp rfl rfl rfl ts3 ta3 rfl (fun _ => rfl)) rfl ?_
 refine DT_ev rfl (EA_add rfl rfl _ (wrap_id (by omega) (by omega))) rfl ?_
 refine DT_ev rfl (EA_move) rfl ?_
 refine DT_ev rfl (EA_nilc_rp rfl) rfl ?_
 refine DT_ev rfl (EA_fa_rp rfl fa145_0 rfl rfl) rfl ?_
 refine DT_ev rfl (EA_load_rp rfl rfl rfl ts119 ta119 rfl (fun _ => rfl)) rfl ?_
 refine DT_ev rfl (EA_len_sl te119 rfl) rfl ?_
 refine DT_ev rfl (EA_lss rfl rfl) rfl ?_
 refine DT_ev rfl (EA_move) rfl ?_
 refine DT_bool 14 rfl (fun hg1 => ?_) (fun hg1 => ?_)
 ·simp only [injGs_length] at hg1
  have hlt : s.i + 1 < xs.length := by have := of_decide_eq_true hg1; omega
  refine Exists.elim (show ∃ v, xs[s.i]? = some v from ⟨_, List.getElem?_eq_getElem (by omega)⟩) fun g hg => ?_
  have hg2 := injGs_get hg
  refine Exists.elim (show ∃ v, xs[s.i + 1]? = some v from ⟨_, List.getElem?_eq_getElem (by omega)⟩) fun z hz => ?_
  have hz2 := injGs_get hz
  have hgp := hp g (List.mem_of_getElem? hg)
  have hz3 : (injGs xs)[(((s.i : Nat) : Int) + 1).toNat]? = some (injG z) := by rw [show (((s.i : Nat) : Int) + 1).toNat = s.i + 1 by omega]; simpa using hz2
  refine DT_evt rfl rfl rfl rfl (EA_move) rfl ?_
  refine DT_evt rfl rfl rfl rfl (EA_nilc_rp rfl) rfl ?_
  refine DT_evt rfl rfl rfl rfl (EA_fa_rp rfl fa145_0 rfl rfl) rfl ?_
  refine DT_evt rfl rfl rfl rfl (EA_load_rp rfl rfl rfl ts119 ta119 rfl (fun _ => rfl)) rfl ?_
  refine DT_evt rfl rfl rfl rfl (EA_move) rfl ?_
  refine DT_evt rfl rfl rfl rfl (EA_nilc_rp rfl) rfl ?_
  refine DT_evt rfl rfl rfl rfl (EA_fa_rp rfl fa145_1 rfl rfl) rfl ?_
  refine DT_evt rfl rfl rfl rfl (EA_load_rp rfl rfl rfl ts3 ta3 rfl (fun _ => rfl)) rfl ?_
  refine DT_evt rfl rfl rfl rfl (EA_add rfl rfl _ (wrap_id (by omega) (by omega))) rfl ?_
  refine DT_evt rfl rfl rfl rfl (EA_ix_sl rfl rfl te119 ts139 (by omega) (by assumption)) rfl ?_
  refine DT_evt rfl rfl rfl rfl (EA_fa_rp rfl fa139_0 rfl rfl) rfl ?_
  refine DT_evt rfl rfl rfl rfl (EA_load_rp rfl rfl rfl ts3 ta3 rfl (fun _ => rfl)) rfl ?_
  refine DT_evt rfl rfl rfl rfl (EA_eql rfl rfl) rfl ?_
  refine DT_ev rfl (EA_pick rfl) rfl ?_
  refine DT_ev rfl (EA_move) rfl ?_
  refine DT_bool 29 rfl (fun hg2 => ?_) (fun hg2 => ?_)
  ·refine DT_evt rfl rfl rfl rfl (EA_move) rfl ?_
   refine DT_evt rfl rfl rfl rfl (EA_nilc_rp rfl) rfl ?_
   refine DT_evt rfl rfl rfl rfl (EA_fa_rp rfl fa145_0 rfl rfl) rfl ?_
   refine DT_evt rfl rfl rfl rfl (EA_load_rp rfl rfl rfl ts119 ta119 rfl (fun _ => rfl)) rfl ?_
   refine DT_evt rfl rfl rfl rfl (EA_move) rfl ?_
   refine DT_evt rfl rfl rfl rfl (EA_nilc_rp rfl) rfl ?_
   refine DT_evt rfl rfl rfl rfl (EA_fa_rp rfl fa145_1 rfl rfl) rfl ?_
   refine DT_evt rfl rfl rfl rfl (EA_load_rp rfl rfl rfl ts3 ta3 rfl (fun _ => rfl)) rfl ?_
   refine DT_evt rfl rfl rfl rfl (EA_add rfl rfl _ (wrap_id (by omega) (by omega))) rfl ?_
   refine DT_evt rfl rfl rfl rfl (EA_ix_sl rfl rfl te119 ts139 (by omega) (by assumption)) rfl ?_
   refine DT_evt rfl rfl rfl rfl (EA_fa_rp rfl fa139_3 rfl rfl) rfl ?_
   refine DT_evt rfl rfl rfl rfl (EA_load_rp rfl rfl rfl ts3 ta3 rfl (fun _ => rfl)) rfl ?_
   refine DT_evt rfl rfl rfl rfl (EA_move) rfl ?_
   refine DT_evt rfl rfl rfl rfl (EA_nilc_rp rfl) rfl ?_
   refine DT_evt rfl rfl rfl rfl (EA_fa_rp rfl fa145_0 rfl rfl) rfl ?_
   refine DT_evt rfl rfl rfl rfl (EA_load_rp rfl rfl rfl ts119 ta119 rfl (fun _ => rfl)) rfl ?_
   refine DT_evt rfl rfl rfl rfl (EA_move) rfl ?_
   refine DT_evt rfl rfl rfl rfl (EA_nilc_rp rfl) rfl ?_
   refine DT_evt rfl rfl rfl rfl (EA_fa_rp rfl fa145_1 rfl rfl) rfl ?_
   refine DT_evt rfl rfl rfl rfl (EA_load_rp rfl rfl rfl ts3 ta3 rfl (fun _ => rfl)) rfl ?_
   refine DT_evt rfl rfl rfl rfl (EA_ix_sl rfl rfl te119 ts139 (by omega) (by assumption)) rfl ?_
   refine DT_evt rfl rfl rfl rfl (EA_fa_rp rfl fa139_3 rfl rfl) rfl ?_
   refine DT_evt rfl rfl rfl rfl (EA_load_rp rfl rfl rfl ts3 ta3 rfl (fun _ => rfl)) rfl ?_
   refine DT_evt rfl rfl rfl rfl (EA_add rfl rfl _ (wrap_id (by omega) (by omega))) rfl ?_
   refine DT_evt rfl rfl rfl rfl (EA_eql rfl rfl) rfl ?_
   refine DT_ev rfl (EA_pick rfl) rfl ?_
   refine DT_ev rfl (EA_assign) rfl ?_
   refine DTi.nil ?_
   refine hK2 _ _ _ ?_
   refine AC_ret ?_
   refine ret_ok hdm (.tmp rfl rfl .nil) (.cons .d .nil) ?_
   (simp_all [nearM]; done)
  ·refine DT_f rfl rfl rfl rfl rfl ?_
   refine DT_f rfl rfl rfl rfl rfl ?_
   refine DT_f rfl rfl rfl rfl rfl ?_
   refine DT_f rfl rfl rfl rfl rfl ?_
   refine DT_f rfl rfl rfl rfl rfl ?_
   refine DT_f rfl rfl rfl rfl rfl ?_
   refine DT_f rfl rfl rfl rfl rfl ?_
   refine DT_f rfl rfl rfl rfl rfl ?_
   refine DT_f rfl rfl rfl rfl rfl ?_
   refine DT_f rfl rfl rfl rfl rfl ?_
   refine DT_f rfl rfl rfl rfl rfl ?_
   refine DT_f rfl rfl rfl rfl rfl ?_
   refine DT_f rfl rfl rfl rfl rfl ?_
   refine DT_f rfl rfl rfl rfl rfl ?_
   refine DT_f rfl rfl rfl rfl rfl ?_
   refine DT_f rfl rfl rfl rfl rfl ?_
   refine DT_f rfl rfl rfl rfl rfl ?_
   refine DT_f rfl rfl rfl rfl rfl ?_
   refine DT_f rfl rfl rfl rfl rfl ?_
   refine DT_f rfl rfl rfl rfl rfl ?_
   refine DT_f rfl rfl rfl rfl rfl ?_
   refine DT_f rfl rfl rfl rfl rfl ?_
   refine DT_f rfl rfl rfl rfl rfl ?_
   refine DT_f rfl rfl rfl rfl rfl ?_
   refine DT_f rfl rfl rfl rfl rfl ?_
   refine DT_ev rfl (EA_pick rfl) rfl ?_
   refine DT_ev rfl (EA_assign) rfl ?_
   refine DTi.nil ?_
   refine hK2 _ _ _ ?_
   refine AC_ret ?_
   refine ret_ok hdm (.tmp rfl rfl .nil) (.cons .d .nil) ?_
   (simp_all [nearM]; done)
 ·simp only [injGs_length] at hg1
  have hlt : ¬ s.i + 1 < xs.length := by have := of_decide_eq_false hg1; omega
  have hno : xs[s.i + 1]? = none := List.getElem?_eq_none (by omega)
  refine DT_f rfl rfl rfl rfl rfl ?_
  refine DT_f rfl rfl rfl rfl rfl ?_
  refine DT_f rfl rfl rfl rfl rfl ?_
  refine DT_f rfl rfl rfl rfl rfl ?_
  refine DT_f rfl rfl rfl rfl rfl ?_
  refine DT_f rfl rfl rfl rfl rfl ?_
  refine DT_f rfl rfl rfl rfl rfl ?_
  refine DT_f rfl rfl rfl rfl rfl ?_
  refine DT_f rfl rfl rfl rfl rfl ?_
  refine DT_f rfl rfl rfl rfl rfl ?_
  refine DT_f rfl rfl rfl rfl rfl ?_
  refine DT_f rfl rfl rfl rfl rfl ?_
  refine DT_f rfl rfl rfl rfl rfl ?_
  refine DT_ev rfl (EA_pick rfl) rfl ?_
  refine DT_ev rfl (EA_move) rfl ?_
  refine DT_f rfl rfl rfl rfl rfl ?_
  refine DT_f rfl rfl rfl rfl rfl ?_
  refine DT_f rfl rfl rfl rfl rfl ?_
  refine DT_f rfl rfl rfl rfl rfl ?_
  refine DT_f rfl rfl rfl rfl rfl ?_
  refine DT_f rfl rfl rfl rfl rfl ?_
  refine DT_f rfl rfl rfl rfl rfl ?_
  refine DT_f rfl rfl rfl rfl rfl ?_
  refine DT_f rfl rfl rfl rfl rfl ?_
  refine DT_f rfl rfl rfl rfl rfl ?_
  refine DT_f rfl rfl rfl rfl rfl ?_
  refine DT_f rfl rfl rfl rfl rfl ?_
  refine DT_f rfl rfl rfl rfl rfl ?_
  refine DT_f rfl rfl rfl rfl rfl ?_
  refine DT_f rfl rfl rfl rfl rfl ?_
  refine DT_f rfl rfl rfl rfl rfl ?_
  refine DT_f rfl rfl rfl rfl rfl ?_
  refine DT_f rfl rfl rfl rfl rfl ?_
  refine DT_f rfl rfl rfl rfl rfl ?_
  refine DT_f rfl rfl rfl rfl rfl ?_
  refine DT_f rfl rfl rfl rfl rfl ?_
  refine DT_f rfl rfl rfl rfl rfl ?_
  refine DT_f rfl rfl rfl rfl rfl ?_
  refine DT_f rfl rfl rfl rfl rfl ?_
  refine DT_f rfl rfl rfl rfl rfl ?_
  refine DT_ev rfl (EA_pick rfl) rfl ?_
  refine DT_ev rfl (EA_assign) rfl ?_
  refine DTi.nil ?_
  refine hK2 _ _ _ ?_
  refine AC_ret ?_
  refine ret_ok hdm (.tmp rfl rfl .nil) (.cons .d .nil) ?_
  (simp_all [nearM]; done)
set_option maxHeartbeats 8000000 in
set_option maxRecDepth 4000 in
theorem c_infixOf (x : ByteArray) : PCall Tryz.prog 177 [.c (.string x)] (· = [injO (betw x).1, .c (.bool (betw x).2)]) := by
 refine PCall_of (n := 42) Tryz.func177 rfl rfl (Nat.le_of_ble_eq_true rfl) fun C hdm hT0 => ?_
 have hT := hT0
 refine AC_seq fun K1 hK1 => ?_
 refine AC_region ?_
 refine AL_alloc zo161 _ rfl rfl ?_
 refine AL_ev (Ev_assign) rfl ?_
 refine AL_nil ?_
 refine hK1 _ _ _ ?_
 refine AC_seq fun K2 hK2 => ?_
 refine AC_seq fun K3 hK3 => ?_
 refine AC_region ?_
 refine AL_ev (Ev_move) rfl ?_
 refine AL_nil ?_
 refine hK3 _ _ _ ?_
 refine AC_block ?_
 refine AC_seq fun K4 hK4 => ?_
 refine AC_seq fun K5 hK5 => ?_
 refine AC_region ?_
 refine AL_ev (Ev_seql rfl rfl) rfl ?_
 refine AL_ev (Ev_assign) rfl ?_
 refine AL_nil ?_
 refine hK5 _ _ _ ?_
 refine AC_cond rfl (fun hc1 => ?_) (fun hc1 => ?_)
 ·refine AC_skip ?_
  refine hK4 _ _ _ ?_
  refine AC_cond_t (congrArg bl hc1) ?_
  refine AC_seq fun K6 hK6 => ?_
  refine AC_region ?_
  refine AL_ev (Ev_move) rfl ?_
  refine AL_ev (Ev_build (fs := [.one, .one, .one, .one]) (zs := [.c (.string ⟨#[]⟩), .c (.int .i64 0), .c (.int .i64 0), .c (.int .i64 0)]) tz161 rfl tpl161 (.cons rfl rfl (by rfl) (.cons rfl rfl (by rfl) (.cons rfl rfl (by rfl) (.cons rfl rfl (by rfl) .nil))))) rfl ?_
  refine AL_store rfl (nf rfl) rfl rfl rfl rfl rfl rfl (by rfl) ts161 rfl rfl ?_
  refine AL_ev (Ev_assign) rfl ?_
  refine AL_nil ?_
  refine hK6 _ _ _ ?_
  refine AC_ret ?_
  exact ret_ok hdm (.cell rfl rfl rfl rfl rfl rfl ts161 ta161 (by rfl) (by intro h; cases h) (.tmp rfl rfl .nil)) (.cons (by exact .agg (.cons .d (.cons .d (.cons .d (.cons .d .nil))))) (.cons .d .nil)) (by (have hx9 : x = _ := of_decide_eq_true (by assumption); subst hx9; exact op_ret rfl))
 ·refine AC_region ?_
  refine AL_ev (Ev_seql rfl rfl) rfl ?_
  refine AL_ev (Ev_assign) rfl ?_
  refine AL_nil ?_
  refine hK4 _ _ _ ?_
  refine AC_cond rfl (fun hc2 => ?_) (fun hc2 => ?_)
  ·refine AC_seq fun K7 hK7 => ?_
   refine AC_region ?_
   refine AL_ev (Ev_move) rfl ?_
   refine AL_ev (Ev_build (fs := [.one, .one, .one, .one]) (zs := [.c (.string ⟨#[]⟩), .c (.int .i64 0), .c (.int .i64 0), .c (.int .i64 0)]) tz161 rfl tpl161 (.cons rfl rfl (by rfl) (.cons rfl rfl (by rfl) (.cons rfl rfl (by rfl) (.cons rfl rfl (by rfl) .nil))))) rfl ?_
   refine AL_store rfl (nf rfl) rfl rfl rfl rfl rfl rfl (by rfl) ts161 rfl rfl ?_
   refine AL_ev (Ev_assign) rfl ?_
   refine AL_nil ?_
   refine hK7 _ _ _ ?_
   refine AC_ret ?_
   exact ret_ok hdm (.cell rfl rfl rfl rfl rfl rfl ts161 ta161 (by rfl) (by intro h; cases h) (.tmp rfl rfl .nil)) (.cons (by exact .agg (.cons .d (.cons .d (.cons .d (.cons .d .nil))))) (.cons .d .nil)) (by (have hx9 : x = _ := of_decide_eq_true (by assumption); subst hx9; exact op_ret rfl))
  ·refine AC_seq fun K8 hK8 => ?_
   refine AC_region ?_
   refine AL_ev (Ev_seql rfl rfl) rfl ?_
   refine AL_ev (Ev_assign) rfl ?_
   refine AL_nil ?_
   refine hK8 _ _ _ ?_
   refine AC_cond rfl (fun hc3 => ?_) (fun hc3 => ?_)
   ·refine AC_seq fun K9 hK9 => ?_
    refine AC_region ?_
    refine AL_ev (Ev_move) rfl ?_
    refine AL_ev (Ev_build (fs := [.one, .one, .one, .one]) (zs := [.c (.string ⟨#[]⟩), .c (.int .i64 0), .c (.int .i64 0), .c (.int .i64 0)]) tz161 rfl tpl161 (.cons rfl rfl (by rfl) (.cons rfl rfl (by rfl) (.cons rfl rfl (by rfl) (.cons rfl rfl (by rfl) .nil))))) rfl ?_
    refine AL_store rfl (nf rfl) rfl rfl rfl rfl rfl rfl (by rfl) ts161 rfl rfl ?_
    refine AL_ev (Ev_assign) rfl ?_
    refine AL_nil ?_
    refine hK9 _ _ _ ?_
    refine AC_ret ?_
    exact ret_ok hdm (.cell rfl rfl rfl rfl rfl rfl ts161 ta161 (by rfl) (by intro h; cases h) (.tmp rfl rfl .nil)) (.cons (by exact .agg (.cons .d (.cons .d (.cons .d (.cons .d .nil))))) (.cons .d .nil)) (by (have hx9 : x = _ := of_decide_eq_true (by assumption); subst hx9; exact op_ret rfl))
   ·refine AC_seq fun K10 hK10 => ?_
    refine AC_region ?_
    refine AL_ev (Ev_seql rfl rfl) rfl ?_
    refine AL_ev (Ev_assign) rfl ?_
    refine AL_nil ?_
    refine hK10 _ _ _ ?_
    refine AC_cond rfl (fun hc4 => ?_) (fun hc4 => ?_)
    ·refine AC_seq fun K11 hK11 => ?_
     refine AC_region ?_
     refine AL_ev (Ev_move) rfl ?_
     refine AL_ev (Ev_build (fs := [.one, .one, .one, .one]) (zs := [.c (.string ⟨#[]⟩), .c (.int .i64 0), .c (.int .i64 0), .c (.int .i64 0)]) tz161 rfl tpl161 (.cons rfl rfl (by rfl) (.cons rfl rfl (by rfl) (.cons rfl rfl (by rfl) (.cons rfl rfl (by rfl) .nil))))) rfl ?_
     refine AL_store rfl (nf rfl) rfl rfl rfl rfl rfl rfl (by rfl) ts161 rfl rfl ?_
     refine AL_ev (Ev_assign) rfl ?_
     refine AL_nil ?_
     refine hK11 _ _ _ ?_
     refine AC_ret ?_
     exact ret_ok hdm (.cell rfl rfl rfl rfl rfl rfl ts161 ta161 (by rfl) (by intro h; cases h) (.tmp rfl rfl .nil)) (.cons (by exact .agg (.cons .d (.cons .d (.cons .d (.cons .d .nil))))) (.cons .d .nil)) (by (have hx9 : x = _ := of_decide_eq_true (by assumption); subst hx9; exact op_ret rfl))
    ·refine AC_seq fun K12 hK12 => ?_
     refine AC_region ?_
     refine AL_ev (Ev_seql rfl rfl) rfl ?_
     refine AL_ev (Ev_assign) rfl ?_
     refine AL_nil ?_
     refine hK12 _ _ _ ?_
     refine AC_cond rfl (fun hc5 => ?_) (fun hc5 => ?_)
     ·refine AC_seq fun K13 hK13 => ?_
      refine AC_region ?_
      refine AL_ev (Ev_move) rfl ?_
      refine AL_ev (Ev_build (fs := [.one, .one, .one, .one]) (zs := [.c (.string ⟨#[]⟩), .c (.int .i64 0), .c (.int .i64 0), .c (.int .i64 0)]) tz161 rfl tpl161 (.cons rfl rfl (by rfl) (.cons rfl rfl (by rfl) (.cons rfl rfl (by rfl) (.cons rfl rfl (by rfl) .nil))))) rfl ?_
      refine AL_store rfl (nf rfl) rfl rfl rfl rfl rfl rfl (by rfl) ts161 rfl rfl ?_
      refine AL_ev (Ev_assign) rfl ?_
      refine AL_nil ?_
      refine hK13 _ _ _ ?_
      refine AC_ret ?_
      exact ret_ok hdm (.cell rfl rfl rfl rfl rfl rfl ts161 ta161 (by rfl) (by intro h; cases h) (.tmp rfl rfl .nil)) (.cons (by exact .agg (.cons .d (.cons .d (.cons .d (.cons .d .nil))))) (.cons .d .nil)) (by (have hx9 : x = _ := of_decide_eq_true (by assumption); subst hx9; exact op_ret rfl))
     ·refine AC_seq fun K14 hK14 => ?_
      refine AC_seq fun K15 hK15 => ?_
      refine AC_region ?_
      refine AL_ev (Ev_seql rfl rfl) rfl ?_
      refine AL_ev (Ev_assign) rfl ?_
      refine AL_nil ?_
      refine hK15 _ _ _ ?_
      refine AC_cond rfl (fun hc6 => ?_) (fun hc6 => ?_)
      ·refine AC_skip ?_
       refine hK14 _ _ _ ?_
       refine AC_cond_t (congrArg bl hc6) ?_
       refine AC_seq fun K16 hK16 => ?_
       refine AC_region ?_
       refine AL_ev (Ev_move) rfl ?_
       refine AL_ev (Ev_build (fs := [.one, .one, .one, .one]) (zs := [.c (.string ⟨#[]⟩), .c (.int .i64 0), .c (.int .i64 0), .c (.int .i64 0)]) tz161 rfl tpl161 (.cons rfl rfl (by rfl) (.cons rfl rfl (by rfl) (.cons rfl rfl (by rfl) (.cons rfl rfl (by rfl) .nil))))) rfl ?_
       refine AL_store rfl (nf rfl) rfl rfl rfl rfl rfl rfl (by rfl) ts161 rfl rfl ?_
       refine AL_ev (Ev_assign) rfl ?_
       refine AL_nil ?_
       refine hK16 _ _ _ ?_
       refine AC_ret ?_
       exact ret_ok hdm (.cell rfl rfl rfl rfl rfl rfl ts161 ta161 (by rfl) (by intro h; cases h) (.tmp rfl rfl .nil)) (.cons (by exact .agg (.cons .d (.cons .d (.cons .d (.cons .d .nil))))) (.cons .d .nil)) (by (have hx9 : x = _ := of_decide_eq_true (by assumption); subst hx9; exact op_ret rfl))
      ·refine AC_seq fun K17 hK17 => ?_
       refine AC_region ?_
       refine AL_ev (Ev_seql rfl rfl) rfl ?_
       refine AL_ev (Ev_assign) rfl ?_
       refine AL_nil ?_
       refine hK17 _ _ _ ?_
       refine AC_cond rfl (fun hc7 => ?_) (fun hc7 => ?_)
       ·refine AC_skip ?_
        refine hK14 _ _ _ ?_
        refine AC_cond_t (congrArg bl hc7) ?_
        refine AC_seq fun K18 hK18 => ?_
        refine AC_region ?_
        refine AL_ev (Ev_move) rfl ?_
        refine AL_ev (Ev_build (fs := [.one, .one, .one, .one]) (zs := [.c (.string ⟨#[]⟩), .c (.int .i64 0), .c (.int .i64 0), .c (.int .i64 0)]) tz161 rfl tpl161 (.cons rfl rfl (by rfl) (.cons rfl rfl (by rfl) (.cons rfl rfl (by rfl) (.cons rfl rfl (by rfl) .nil))))) rfl ?_
        refine AL_store rfl (nf rfl) rfl rfl rfl rfl rfl rfl (by rfl) ts161 rfl rfl ?_
        refine AL_ev (Ev_assign) rfl ?_
        refine AL_nil ?_
        refine hK18 _ _ _ ?_
        refine AC_ret ?_
        exact ret_ok hdm (.cell rfl rfl rfl rfl rfl rfl ts161 ta161 (by rfl) (by intro h; cases h) (.tmp rfl rfl .nil)) (.cons (by exact .agg (.cons .d (.cons .d (.cons .d (.cons .d .nil))))) (.cons .d .nil)) (by (have hx9 : x = _ := of_decide_eq_true (by assumption); subst hx9; exact op_ret rfl))
       ·refine AC_seq fun K19 hK19 => ?_
        refine AC_region ?_
        refine AL_ev (Ev_seql rfl rfl) rfl ?_
        refine AL_ev (Ev_assign) rfl ?_
        refine AL_nil ?_
        refine hK19 _ _ _ ?_
        refine AC_cond rfl (fun hc8 => ?_) (fun hc8 => ?_)
        ·refine AC_skip ?_
         refine hK14 _ _ _ ?_
         refine AC_cond_t (congrArg bl hc8) ?_
         refine AC_seq fun K20 hK20 => ?_
         refine AC_region ?_
         refine AL_ev (Ev_move) rfl ?_
         refine AL_ev (Ev_build (fs := [.one, .one, .one, .one]) (zs := [.c (.string ⟨#[]⟩), .c (.int .i64 0), .c (.int .i64 0), .c (.int .i64 0)]) tz161 rfl tpl161 (.cons rfl rfl (by rfl) (.cons rfl rfl (by rfl) (.cons rfl rfl (by rfl) (.cons rfl rfl (by rfl) .nil))))) rfl ?_
         refine AL_store rfl (nf rfl) rfl rfl rfl rfl rfl rfl (by rfl) ts161 rfl rfl ?_
         refine AL_ev (Ev_assign) rfl ?_
         refine AL_nil ?_
         refine hK20 _ _ _ ?_
         refine AC_ret ?_
         exact ret_ok hdm (.cell rfl rfl rfl rfl rfl rfl ts161 ta161 (by rfl) (by intro h; cases h) (.tmp rfl rfl .nil)) (.cons (by exact .agg (.cons .d (.cons .d (.cons .d (.cons .d .nil))))) (.cons .d .nil)) (by (have hx9 : x = _ := of_decide_eq_true (by assumption); subst hx9; exact op_ret rfl))
        ·refine AC_seq fun K21 hK21 => ?_
         refine AC_region ?_
         refine AL_ev (Ev_seql rfl rfl) rfl ?_
         refine AL_ev (Ev_assign) rfl ?_
         refine AL_nil ?_
         refine hK21 _ _ _ ?_
         refine AC_cond rfl (fun hc9 => ?_) (fun hc9 => ?_)
         ·refine AC_skip ?_
          refine hK14 _ _ _ ?_
          refine AC_cond_t (congrArg bl hc9) ?_
          refine AC_seq fun K22 hK22 => ?_
          refine AC_region ?_
          refine AL_ev (Ev_move) rfl ?_
          refine AL_ev (Ev_build (fs := [.one, .one, .one, .one]) (zs := [.c (.string ⟨#[]⟩), .c (.int .i64 0), .c (.int .i64 0), .c (.int .i64 0)]) tz161 rfl tpl161 (.cons rfl rfl (by rfl) (.cons rfl rfl (by rfl) (.cons rfl rfl (by rfl) (.cons rfl rfl (by rfl) .nil))))) rfl ?_
          refine AL_store rfl (nf rfl) rfl rfl rfl rfl rfl rfl (by rfl) ts161 rfl rfl ?_
          refine AL_ev (Ev_assign) rfl ?_
          refine AL_nil ?_
          refine hK22 _ _ _ ?_
          refine AC_ret ?_
          exact ret_ok hdm (.cell rfl rfl rfl rfl rfl rfl ts161 ta161 (by rfl) (by intro h; cases h) (.tmp rfl rfl .nil)) (.cons (by exact .agg (.cons .d (.cons .d (.cons .d (.cons .d .nil))))) (.cons .d .nil)) (by (have hx9 : x = _ := of_decide_eq_true (by assumption); subst hx9; exact op_ret rfl))
         ·refine AC_seq fun K23 hK23 => ?_
          refine AC_region ?_
          refine AL_ev (Ev_seql rfl rfl) rfl ?_
          refine AL_ev (Ev_assign) rfl ?_
          refine AL_nil ?_
          refine hK23 _ _ _ ?_
          refine AC_cond rfl (fun hc10 => ?_) (fun hc10 => ?_)
          ·refine AC_skip ?_
           refine hK14 _ _ _ ?_
           refine AC_cond_t (congrArg bl hc10) ?_
           refine AC_seq fun K24 hK24 => ?_
           refine AC_region ?_
           refine AL_ev (Ev_move) rfl ?_
           refine AL_ev (Ev_build (fs := [.one, .one, .one, .one]) (zs := [.c (.string ⟨#[]⟩), .c (.int .i64 0), .c (.int .i64 0), .c (.int .i64 0)]) tz161 rfl tpl161 (.cons rfl rfl (by rfl) (.cons rfl rfl (by rfl) (.cons rfl rfl (by rfl) (.cons rfl rfl (by rfl) .nil))))) rfl ?_
           refine AL_store rfl (nf rfl) rfl rfl rfl rfl rfl rfl (by rfl) ts161 rfl rfl ?_
           refine AL_ev (Ev_assign) rfl ?_
           refine AL_nil ?_
           refine hK24 _ _ _ ?_
           refine AC_ret ?_
           exact ret_ok hdm (.cell rfl rfl rfl rfl rfl rfl ts161 ta161 (by rfl) (by intro h; cases h) (.tmp rfl rfl .nil)) (.cons (by exact .agg (.cons .d (.cons .d (.cons .d (.cons .d .nil))))) (.cons .d .nil)) (by (have hx9 : x = _ := of_decide_eq_true (by assumption); subst hx9; exact op_ret rfl))
          ·refine AC_region ?_
           refine AL_ev (Ev_seql rfl rfl) rfl ?_
           refine AL_ev (Ev_assign) rfl ?_
           refine AL_nil ?_
           refine hK14 _ _ _ ?_
           refine AC_cond rfl (fun hc11 => ?_) (fun hc11 => ?_)
           ·refine AC_seq fun K25 hK25 => ?_
            refine AC_region ?_
            refine AL_ev (Ev_move) rfl ?_
            refine AL_ev (Ev_build (fs := [.one, .one, .one, .one]) (zs := [.c (.string ⟨#[]⟩), .c (.int .i64 0), .c (.int .i64 0), .c (.int .i64 0)]) tz161 rfl tpl161 (.cons rfl rfl (by rfl) (.cons rfl rfl (by rfl) (.cons rfl rfl (by rfl) (.cons rfl rfl (by rfl) .nil))))) rfl ?_
            refine AL_store rfl (nf rfl) rfl rfl rfl rfl rfl rfl (by rfl) ts161 rfl rfl ?_
            refine AL_ev (Ev_assign) rfl ?_
            refine AL_nil ?_
            refine hK25 _ _ _ ?_
            refine AC_ret ?_
            exact ret_ok hdm (.cell rfl rfl rfl rfl rfl rfl ts161 ta161 (by rfl) (by intro h; cases h) (.tmp rfl rfl .nil)) (.cons (by exact .agg (.cons .d (.cons .d (.cons .d (.cons .d .nil))))) (.cons .d .nil)) (by (have hx9 : x = _ := of_decide_eq_true (by assumption); subst hx9; exact op_ret rfl))
           ·refine AC_seq fun K26 hK26 => ?_
            refine AC_seq fun K27 hK27 => ?_
            refine AC_region ?_
            refine AL_ev (Ev_seql rfl rfl) rfl ?_
            refine AL_ev (Ev_assign) rfl ?_
            refine AL_nil ?_
            refine hK27 _ _ _ ?_
            refine AC_cond rfl (fun hc12 => ?_) (fun hc12 => ?_)
            ·refine AC_skip ?_
             refine hK26 _ _ _ ?_
             refine AC_cond_t (congrArg bl hc12) ?_
             refine AC_seq fun K28 hK28 => ?_
             refine AC_region ?_
             refine AL_ev (Ev_move) rfl ?_
             refine AL_ev (Ev_build (fs := [.one, .one, .one, .one]) (zs := [.c (.string ⟨#[]⟩), .c (.int .i64 0), .c (.int .i64 0), .c (.int .i64 0)]) tz161 rfl tpl161 (.cons rfl rfl (by rfl) (.cons rfl rfl (by rfl) (.cons rfl rfl (by rfl) (.cons rfl rfl (by rfl) .nil))))) rfl ?_
             refine AL_store rfl (nf rfl) rfl rfl rfl rfl rfl rfl (by rfl) ts161 rfl rfl ?_
             refine AL_ev (Ev_assign) rfl ?_
             refine AL_nil ?_
             refine hK28 _ _ _ ?_
             refine AC_ret ?_
             exact ret_ok hdm (.cell rfl rfl rfl rfl rfl rfl ts161 ta161 (by rfl) (by intro h; cases h) (.tmp rfl rfl .nil)) (.cons (by exact .agg (.cons .d (.cons .d (.cons .d (.cons .d .nil))))) (.cons .d .nil)) (by (have hx9 : x = _ := of_decide_eq_true (by assumption); subst hx9; exact op_ret rfl))
            ·refine AC_region ?_
             refine AL_ev (Ev_seql rfl rfl) rfl ?_
             refine AL_ev (Ev_assign) rfl ?_
             refine AL_nil ?_
             refine hK26 _ _ _ ?_
             refine AC_cond rfl (fun hc13 => ?_) (fun hc13 => ?_)
             ·refine AC_seq fun K29 hK29 => ?_
              refine AC_region ?_
              refine AL_ev (Ev_move) rfl ?_
              refine AL_ev (Ev_build (fs := [.one, .one, .one, .one]) (zs := [.c (.string ⟨#[]⟩), .c (.int .i64 0), .c (.int .i64 0), .c (.int .i64 0)]) tz161 rfl tpl161 (.cons rfl rfl (by rfl) (.cons rfl rfl (by rfl) (.cons rfl rfl (by rfl) (.cons rfl rfl (by rfl) .nil))))) rfl ?_
              refine AL_store rfl (nf rfl) rfl rfl rfl rfl rfl rfl (by rfl) ts161 rfl rfl ?_
              refine AL_ev (Ev_assign) rfl ?_
              refine AL_nil ?_
              refine hK29 _ _ _ ?_
              refine AC_ret ?_
              exact ret_ok hdm (.cell rfl rfl rfl rfl rfl rfl ts161 ta161 (by rfl) (by intro h; cases h) (.tmp rfl rfl .nil)) (.cons (by exact .agg (.cons .d (.cons .d (.cons .d (.cons .d .nil))))) (.cons .d .nil)) (by (have hx9 : x = _ := of_decide_eq_true (by assumption); subst hx9; exact op_ret rfl))
             ·refine AC_seq fun K30 hK30 => ?_
              refine AC_seq fun K31 hK31 => ?_
              refine AC_region ?_
              refine AL_ev (Ev_seql rfl rfl) rfl ?_
              refine AL_ev (Ev_assign) rfl ?_
              refine AL_nil ?_
              refine hK31 _ _ _ ?_
              refine AC_cond rfl (fun hc14 => ?_) (fun hc14 => ?_)
              ·refine AC_skip ?_
               refine hK30 _ _ _ ?_
               refine AC_cond_t (congrArg bl hc14) ?_
               refine AC_seq fun K32 hK32 => ?_
               refine AC_region ?_
               refine AL_ev (Ev_move) rfl ?_
               refine AL_ev (Ev_build (fs := [.one, .one, .one, .one]) (zs := [.c (.string ⟨#[]⟩), .c (.int .i64 0), .c (.int .i64 0), .c (.int .i64 0)]) tz161 rfl tpl161 (.cons rfl rfl (by rfl) (.cons rfl rfl (by rfl) (.cons rfl rfl (by rfl) (.cons rfl rfl (by rfl) .nil))))) rfl ?_
               refine AL_store rfl (nf rfl) rfl rfl rfl rfl rfl rfl (by rfl) ts161 rfl rfl ?_
               refine AL_ev (Ev_assign) rfl ?_
               refine AL_nil ?_
               refine hK32 _ _ _ ?_
               refine AC_ret ?_
               exact ret_ok hdm (.cell rfl rfl rfl rfl rfl rfl ts161 ta161 (by rfl) (by intro h; cases h) (.tmp rfl rfl .nil)) (.cons (by exact .agg (.cons .d (.cons .d (.cons .d (.cons .d .nil))))) (.cons .d .nil)) (by (have hx9 : x = _ := of_decide_eq_true (by assumption); subst hx9; exact op_ret rfl))
              ·refine AC_region ?_
               refine AL_ev (Ev_seql rfl rfl) rfl ?_
               refine AL_ev (Ev_assign) rfl ?_
               refine AL_nil ?_
               refine hK30 _ _ _ ?_
               refine AC_cond rfl (fun hc15 => ?_) (fun hc15 => ?_)
               ·refine AC_seq fun K33 hK33 => ?_
                refine AC_region ?_
                refine AL_ev (Ev_move) rfl ?_
                refine AL_ev (Ev_build (fs := [.one, .one, .one, .one]) (zs := [.c (.string ⟨#[]⟩), .c (.int .i64 0), .c (.int .i64 0), .c (.int .i64 0)]) tz161 rfl tpl161 (.cons rfl rfl (by rfl) (.cons rfl rfl (by rfl) (.cons rfl rfl (by rfl) (.cons rfl rfl (by rfl) .nil))))) rfl ?_
                refine AL_store rfl (nf rfl) rfl rfl rfl rfl rfl rfl (by rfl) ts161 rfl rfl ?_
                refine AL_ev (Ev_assign) rfl ?_
                refine AL_nil ?_
                refine hK33 _ _ _ ?_
                refine AC_ret ?_
                exact ret_ok hdm (.cell rfl rfl rfl rfl rfl rfl ts161 ta161 (by rfl) (by intro h; cases h) (.tmp rfl rfl .nil)) (.cons (by exact .agg (.cons .d (.cons .d (.cons .d (.cons .d .nil))))) (.cons .d .nil)) (by (have hx9 : x = _ := of_decide_eq_true (by assumption); subst hx9; exact op_ret rfl))
               ·refine AC_skip ?_
                refine hK2 _ _ _ ?_
                refine AC_seq fun K34 hK34 => ?_
                refine AC_region ?_
                refine AL_ev (Ev_build (fs := [.one, .one, .one, .one]) (zs := [.c (.string ⟨#[]⟩), .c (.int .i64 0), .c (.int .i64 0), .c (.int .i64 0)]) tz161 rfl tpl161 .nil) rfl ?_
                refine AL_store rfl (nf rfl) rfl rfl rfl rfl rfl rfl (by rfl) ts161 rfl rfl ?_
                refine AL_ev (Ev_assign) rfl ?_
                refine AL_nil ?_
                refine hK34 _ _ _ ?_
                refine AC_ret ?_
                exact ret_ok hdm (.cell rfl rfl rfl rfl rfl rfl ts161 ta161 (by rfl) (by intro h; cases h) (.tmp rfl rfl .nil)) (.cons (by exact .agg (.cons .d (.cons .d (.cons .d (.cons .d .nil))))) (.cons .d .nil)) (by exact op_ret (by simp only [betw]; simp_all only [decide_eq_true_eq, decide_eq_false_iff_not, or_self, if_false, or_false, false_or]))
set_option maxHeartbeats 8000000 in
set_option maxRecDepth 4000 in
theorem c_prefixOf (x : ByteArray) : PCall Tryz.prog 185 [.c (.string x)] (· = [injO (preO x).1, .c (.bool (preO x).2)]) := by
 refine PCall_of (n := 18) Tryz.func185 rfl rfl (Nat.le_of_ble_eq_true rfl) fun C hdm hT0 => ?_
 have hT := hT0
 refine AC_seq fun K1 hK1 => ?_
 refine AC_region ?_
 refine AL_alloc zo161 _ rfl rfl ?_
 refine AL_ev (Ev_assign) rfl ?_
 refine AL_nil ?_
 refine hK1 _ _ _ ?_
 refine AC_seq fun K2 hK2 => ?_
 refine AC_seq fun K3 hK3 => ?_
 refine AC_region ?_
 refine AL_ev (Ev_move) rfl ?_
 refine AL_nil ?_
 refine hK3 _ _ _ ?_
 refine AC_block ?_
 refine AC_seq fun K4 hK4 => ?_
 refine AC_region ?_
 refine AL_ev (Ev_seql rfl rfl) rfl ?_
 refine AL_ev (Ev_assign) rfl ?_
 refine AL_nil ?_
 refine hK4 _ _ _ ?_
 refine AC_cond rfl (fun hc1 => ?_) (fun hc1 => ?_)
 ·refine AC_seq fun K5 hK5 => ?_
  refine AC_region ?_
  refine AL_ev (Ev_move) rfl ?_
  refine AL_ev (Ev_build (fs := [.one, .one, .one, .one]) (zs := [.c (.string ⟨#[]⟩), .c (.int .i64 0), .c (.int .i64 0), .c (.int .i64 0)]) tz161 rfl tpl161 (.cons rfl rfl (by rfl) (.cons rfl rfl (by rfl) (.cons rfl rfl (by rfl) .nil)))) rfl ?_
  refine AL_store rfl (nf rfl) rfl rfl rfl rfl rfl rfl (by rfl) ts161 rfl rfl ?_
  refine AL_ev (Ev_assign) rfl ?_
  refine AL_nil ?_
  refine hK5 _ _ _ ?_
  refine AC_ret ?_
  exact ret_ok hdm (.cell rfl rfl rfl rfl rfl rfl ts161 ta161 (by rfl) (by intro h; cases h) (.tmp rfl rfl .nil)) (.cons (by exact .agg (.cons .d (.cons .d (.cons .d (.cons .d .nil))))) (.cons .d .nil)) (by (have hx9 : x = _ := of_decide_eq_true (by assumption); subst hx9; exact op_ret rfl))
 ·refine AC_seq fun K6 hK6 => ?_
  refine AC_region ?_
  refine AL_ev (Ev_seql rfl rfl) rfl ?_
  refine AL_ev (Ev_assign) rfl ?_
  refine AL_nil ?_
  refine hK6 _ _ _ ?_
  refine AC_cond rfl (fun hc2 => ?_) (fun hc2 => ?_)
  ·refine AC_seq fun K7 hK7 => ?_
   refine AC_region ?_
   refine AL_ev (Ev_move) rfl ?_
   refine AL_ev (Ev_build (fs := [.one, .one, .one, .one]) (zs := [.c (.string ⟨#[]⟩), .c (.int .i64 0), .c (.int .i64 0), .c (.int .i64 0)]) tz161 rfl tpl161 (.cons rfl rfl (by rfl) (.cons rfl rfl (by rfl) (.cons rfl rfl (by rfl) .nil)))) rfl ?_
   refine AL_store rfl (nf rfl) rfl rfl rfl rfl rfl rfl (by rfl) ts161 rfl rfl ?_
   refine AL_ev (Ev_assign) rfl ?_
   refine AL_nil ?_
   refine hK7 _ _ _ ?_
   refine AC_ret ?_
   exact ret_ok hdm (.cell rfl rfl rfl rfl rfl rfl ts161 ta161 (by rfl) (by intro h; cases h) (.tmp rfl rfl .nil)) (.cons (by exact .agg (.cons .d (.cons .d (.cons .d (.cons .d .nil))))) (.cons .d .nil)) (by (have hx9 : x = _ := of_decide_eq_true (by assumption); subst hx9; exact op_ret rfl))
  ·refine AC_seq fun K8 hK8 => ?_
   refine AC_region ?_
   refine AL_ev (Ev_seql rfl rfl) rfl ?_
   refine AL_ev (Ev_assign) rfl ?_
   refine AL_nil ?_
   refine hK8 _ _ _ ?_
   refine AC_cond rfl (fun hc3 => ?_) (fun hc3 => ?_)
   ·refine AC_seq fun K9 hK9 => ?_
    refine AC_region ?_
    refine AL_ev (Ev_move) rfl ?_
    refine AL_ev (Ev_build (fs := [.one, .one, .one, .one]) (zs := [.c (.string ⟨#[]⟩), .c (.int .i64 0), .c (.int .i64 0), .c (.int .i64 0)]) tz161 rfl tpl161 (.cons rfl rfl (by rfl) (.cons rfl rfl (by rfl) (.cons rfl rfl (by rfl) .nil)))) rfl ?_
    refine AL_store rfl (nf rfl) rfl rfl rfl rfl rfl rfl (by rfl) ts161 rfl rfl ?_
    refine AL_ev (Ev_assign) rfl ?_
    refine AL_nil ?_
    refine hK9 _ _ _ ?_
    refine AC_ret ?_
    exact ret_ok hdm (.cell rfl rfl rfl rfl rfl rfl ts161 ta161 (by rfl) (by intro h; cases h) (.tmp rfl rfl .nil)) (.cons (by exact .agg (.cons .d (.cons .d (.cons .d (.cons .d .nil))))) (.cons .d .nil)) (by (have hx9 : x = _ := of_decide_eq_true (by assumption); subst hx9; exact op_ret rfl))
   ·refine AC_skip ?_
    refine hK2 _ _ _ ?_
    refine AC_seq fun K10 hK10 => ?_
    refine AC_region ?_
    refine AL_ev (Ev_build (fs := [.one, .one, .one, .one]) (zs := [.c (.string ⟨#[]⟩), .c (.int .i64 0), .c (.int .i64 0), .c (.int .i64 0)]) tz161 rfl tpl161 .nil) rfl ?_
    refine AL_store rfl (nf rfl) rfl rfl rfl rfl rfl rfl (by rfl) ts161 rfl rfl ?_
    refine AL_ev (Ev_assign) rfl ?_
    refine AL_nil ?_
    refine hK10 _ _ _ ?_
    refine AC_ret ?_
    exact ret_ok hdm (.cell rfl rfl rfl rfl rfl rfl ts161 ta161 (by rfl) (by intro h; cases h) (.tmp rfl rfl .nil)) (.cons (by exact .agg (.cons .d (.cons .d (.cons .d (.cons .d .nil))))) (.cons .d .nil)) (by exact op_ret (by simp only [preO]; simp_all only [decide_eq_true_eq, decide_eq_false_iff_not, or_self, if_false, or_false, false_or]))
set_option maxHeartbeats 1000000 in
set_option maxRecDepth 4000 in
theorem c_mark (xs : List Sg) (s : Rs) (hl : xs.length ≤ 1048576) (w : ByteArray) (hi : s.i ≤ xs.length + 1) : RcC Tryz.prog 173 145 9 xs s [.d (.c (.string w))] (markM xs s w) (fun b => [bl b]) := by
 refine HCallX_of (n := 16) Tryz.func173 rfl rfl (Nat.le_of_ble_eq_true rfl) (Nat.le_of_ble_eq_true rfl) fun C0 o hT => ?_
 refine AC_seq fun K1 hK1 => ?_
 refine AC_region ?_
 refine AL_ev (Ev_assign) rfl ?_
 refine AL_nil ?_
 refine hK1 _ _ _ ?_
 refine AC_seq fun K2 hK2 => ?_
 refine AC_seq fun K3 hK3 => ?_
 refine AC_region ?_
 refine AL_ev (Ev_move) rfl ?_
 refine AL_ev (Ev_move) rfl ?_
 refine AL_qcall hT rfl cl140 (c_is xs (s) 4 (w) (by omega)) (.cons (.rd (.ptr trivial rfl rfl rfl (.agg (.cons .d (.cons .d (.cons .d (.cons .d (.cons (.ref trivial rfl rfl (by simp) (ReadsL_d _)) .nil)))))))) (.cons (.rd .d) (.cons (.rd .d) .nil))) rfl ?_
 refine AL_nil ?_
 refine hK3 _ _ _ ?_
 refine AC_cond rfl (fun hc1 => ?_) (fun hc1 => ?_)
 ·refine AC_seq fun K4 hK4 => ?_
  refine AC_region ?_
  refine AL_ev (Ev_move) rfl ?_
  refine AL_ev (Ev_move) rfl ?_
  refine AL_ev (Ev_nilc_ptr rfl) rfl ?_
  refine AL_ev (Ev_fa_ptr rfl fa145_1 rfl rfl) rfl ?_
  refine AL_ev (Ev_load_ptr rfl rfl rfl rfl rfl rfl ts3 ta3 rfl (fun _ => rfl)) rfl ?_
  refine AL_ev (Ev_add rfl rfl _ (wrap_id (by omega) (by omega))) rfl ?_
  refine AL_ev (Ev_nilc_ptr rfl) rfl ?_
  refine AL_ev (Ev_fa_ptr rfl fa145_1 rfl rfl) rfl ?_
  refine AL_store rfl (nf rfl) rfl rfl rfl rfl rfl rfl (by rfl) ts3 rfl rfl ?_
  refine AL_nil ?_
  refine hK4 _ _ _ ?_
  refine AC_seq fun K5 hK5 => ?_
  refine AC_region ?_
  refine AL_ev (Ev_assign) rfl ?_
  refine AL_nil ?_
  refine hK5 _ _ _ ?_
  refine AC_ret ?_
  exact retr_ok (({ s with i := s.i + 1 }, true)) (by simp [markM, hc1]) [0, 1] (CExt.refl _) (.tmp rfl rfl .nil) rfl rfl (BxF_stay rfl rfl rfl rfl rfl (.cons (.agg (.cons .d (.cons .d (.cons .d (.cons .d (.cons (.ref rfl) .nil)))))) .nil) rfl (BxF_cons rfl rfl rfl rfl rfl (VxL_d _) (Nat.le_refl _) BxF_nil)) (Nat.le_of_ble_eq_true rfl) (.cons .d .nil)
 ·refine AC_skip ?_
  refine hK2 _ _ _ ?_
  refine AC_seq fun K6 hK6 => ?_
  refine AC_region ?_
  refine AL_ev (Ev_assign) rfl ?_
  refine AL_nil ?_
  refine hK6 _ _ _ ?_
  refine AC_ret ?_
  exact retr_ok ((s, false)) (by simp [markM, hc1]) [0, 1] (CExt.refl _) (.tmp rfl rfl .nil) rfl rfl (BxF_stay rfl rfl rfl rfl rfl (.cons (.agg (.cons .d (.cons .d (.cons .d (.cons .d (.cons (.ref rfl) .nil)))))) .nil) rfl (BxF_cons rfl rfl rfl rfl rfl (VxL_d _) (Nat.le_refl _) BxF_nil)) (Nat.le_of_ble_eq_true rfl) (.cons .d .nil)
set_option maxHeartbeats 1000000 in
set_option maxRecDepth 4000 in
theorem c_wants (xs : List Sg) (s : Rs) (hl : xs.length ≤ 1048576) (w : ByteArray) (hi : s.i ≤ xs.length + 1) : RcC Tryz.prog 186 145 9 xs s [.d (.c (.string w))] ((wantsM xs s w, ())) (fun _ => []) := by
 refine HCallX_of (n := 11) Tryz.func186 rfl rfl (Nat.le_of_ble_eq_true rfl) (Nat.le_of_ble_eq_true rfl) fun C0 o hT => ?_
 refine AC_seq fun K1 hK1 => ?_
 refine AC_region ?_
 refine AL_ev (Ev_move) rfl ?_
 refine AL_ev (Ev_move) rfl ?_
 refine AL_rcc hT 0 2 rfl cl173 (c_mark xs s hl w hi) rfl (.cons .d .nil) rfl rfl rfl rfl rfl (fun _ => (.cons .d .nil)) rfl ?_
 rintro ⟨s1, t1⟩ hz1
 refine AL_ev (Ev_not rfl) rfl ?_
 refine AL_nil ?_
 refine hK1 _ _ _ ?_
 refine AC_cond rfl (fun hc1 => ?_) (fun hc1 => ?_)
 ·have ht1 : t1 = false := by cases t1 with | true => cases hc1 | false => rfl
  subst ht1
  have hm : isM xs s 4 w = false := by cases e : isM xs s 4 w with | false => rfl | true => simp [markM, e] at hz1
  have hs1 : s1 = s := by simp [markM, hm] at hz1; exact hz1
  refine AC_region ?_
  refine AL_ev (Ev_move) rfl ?_
  refine AL_ev (Ev_nilc_ptr rfl) rfl ?_
  refine AL_ev (Ev_fa_ptr rfl fa145_2 rfl rfl) rfl ?_
  refine AL_store rfl (nf rfl) rfl rfl rfl rfl rfl rfl (by rfl) ts4 rfl rfl ?_
  refine AL_nil ?_
  exact retr_end (({ s1 with bad := true }, ())) (by subst hs1; simp [wantsM, hm]) [2, 3] (CExt.refl _) .nil rfl rfl (BxF_stay rfl rfl rfl rfl rfl (.cons (.agg (.cons .d (.cons .d (.cons .d (.cons .d (.cons (.ref rfl) .nil)))))) .nil) rfl (BxF_cons rfl rfl rfl rfl rfl (VxL_d _) (Nat.le_refl _) BxF_nil)) (Nat.le_of_ble_eq_true rfl) .nil
 ·have ht1 : t1 = true := by cases t1 with | true => rfl | false => cases hc1
  subst ht1
  have hm : isM xs s 4 w = true := by cases e : isM xs s 4 w with | true => rfl | false => simp [markM, e] at hz1
  have hs1 : s1 = { s with i := s.i + 1 } := by simp [markM, hm] at hz1; exact hz1
  refine AC_skip ?_
  exact retr_end ((s1, ())) (by subst hs1; simp [wantsM, hm]) [2, 3] (CExt.refl _) .nil rfl rfl (BxF_stay rfl rfl rfl rfl rfl (.cons (.agg (.cons .d (.cons .d (.cons .d (.cons .d (.cons (.ref rfl) .nil)))))) .nil) rfl (BxF_cons rfl rfl rfl rfl rfl (VxL_d _) (Nat.le_refl _) BxF_nil)) (Nat.le_of_ble_eq_true rfl) .nil
set_option maxHeartbeats 4000000 in
set_option maxRecDepth 4000 in
theorem c_variable (xs : List Sg) (s : Rs) (hl : xs.length ≤ 1048576) (w : ByteArray) (hn : s.ns.length ≤ 1048577) : RcC Tryz.prog 176 145 9 xs s [.d (.c (.string w))] (varM s w) (fun t => [.d (inj t)]) := by
 refine HCallX_of (n := 45) Tryz.func176 rfl rfl (Nat.le_of_ble_eq_true rfl) (Nat.le_of_ble_eq_true rfl) fun C0 o hT => ?_
 refine AC_seq fun K1 hK1 => ?_
 refine AC_region ?_
 refine AL_alloc zo41 _ rfl rfl ?_
 refine AL_nil ?_
 refine hK1 _ _ _ ?_
 refine AC_seq fun K2 hK2 => ?_
 refine AC_seq fun K3 hK3 => ?_
 refine AC_region ?_
 refine AL_ev (Ev_move) rfl ?_
 refine AL_ev (Ev_sneq rfl rfl) rfl ?_
 refine AL_nil ?_
 refine hK3 _ _ _ ?_
 refine AC_cond rfl (fun hc1 => ?_) (fun hc1 => ?_)
 ·refine AC_seq fun K4 hK4 => ?_
  refine AC_region ?_
  refine AL_ev (Ev_assign) rfl ?_
  refine AL_nil ?_
  refine hK4 _ _ _ ?_
  refine AC_block ?_
  refine AC_loopS [0, 1, 4] (Nat) (fun j => [(5, i64 ((j : Nat) : Int))]) (fun _ => [some (rBox ⟨145, some (o 0)⟩ 1 xs s), some (nBox 9 s), some ⟨41, LT, [.d zT]⟩]) (fun j => s.ns.length - j) (fun j => j ≤ s.ns.length ∧ findV s.ns w 0 = findV (s.ns.drop j) w j) (0) ?_ ?_ ?_
  ·exact enterS [some 0, some 1, some 2] rfl rfl (BxTo_some rfl rfl rfl rfl (.cons (.agg (.cons (.rd .d) (.cons (.rd .d) (.cons (.rd .d) (.cons (.rd .d) (.cons (.ref rfl) .nil)))))) .nil) (BxTo_some rfl rfl rfl rfl (VwL_d _) (BxTo_some rfl rfl rfl rfl (.cons (.rd .d) .nil) BxTo_nil))) (SlTo_cons (by exact .rd .d) (SlTo_cons (by exact .ptr rfl) (SlTo_cons (by exact .rd .d) (SlTo_cons (by exact .ptr rfl) SlTo_nil))))
  ·exact ⟨Nat.zero_le _, rfl⟩
  rintro j ⟨hj0, hI⟩
  refine AC_seq fun K5 hK5 => ?_
  refine AC_seq fun K6 hK6 => ?_
  refine AC_region ?_
  refine AL_ev (Ev_move) rfl ?_
  refine AL_ev (Ev_move) rfl ?_
  refine AL_ev (Ev_nilc_ptr rfl) rfl ?_
  refine AL_ev (Ev_fa_ptr rfl fa145_4 rfl rfl) rfl ?_
  refine AL_ev (Ev_load_ptr rfl rfl rfl rfl rfl rfl ts25 ta25 rfl (fun _ => rfl)) rfl ?_
  refine AL_limB (x := (Operand.tmp 12)) rfl rfl (by (simp; done)) fun hl1 => ?_
  refine AL_ev (Ev_len_ref te25 rfl) rfl ?_
  refine AL_ev (Ev_lss rfl rfl) rfl ?_
  refine AL_nil ?_
  refine hK6 _ _ _ ?_
  refine AC_cond rfl (fun hc2 => ?_) (fun hc2 => ?_)
  ·have hlt : j < s.ns.length := by have := of_decide_eq_true hc2; omega
   refine Exists.elim (show ∃ u, s.ns[j]? = some u from ⟨_, List.getElem?_eq_getElem hlt⟩) fun u hu => ?_
   have hes : ((strs s.ns).map V.d)[0 + ((j : Nat) : Int).toNat]? = some (.d (.c (.string u))) := by rw [Int.toNat_natCast, Nat.zero_add]; simp [strs, hu]
   have hdr := drop_get hu
   refine AC_skip ?_
   refine hK5 _ _ _ ?_
   refine AC_seq fun K7 hK7 => ?_
   refine AC_block ?_
   refine AC_seq fun K8 hK8 => ?_
   refine AC_region ?_
   refine AL_ev (Ev_move) rfl ?_
   refine AL_ev (Ev_nilc_ptr rfl) rfl ?_
   refine AL_ev (Ev_fa_ptr rfl fa145_4 rfl rfl) rfl ?_
   refine AL_ev (Ev_load_ptr rfl rfl rfl rfl rfl rfl ts25 ta25 rfl (fun _ => rfl)) rfl ?_
   refine AL_ev (Ev_move) rfl ?_
   refine AL_ev (Ev_ix_ref rfl rfl te25 ts9 (by omega) (by omega)) rfl ?_
   refine AL_ev (Ev_load_ptr rfl rfl rfl hes rfl rfl ts9 ta9 rfl (fun _ => rfl)) rfl ?_
   refine AL_ev (Ev_move) rfl ?_
   refine AL_ev (Ev_seql rfl rfl) rfl ?_
   refine AL_nil ?_
   refine hK8 _ _ _ ?_
   refine AC_cond rfl (fun hc3 => ?_) (fun hc3 => ?_)
   ·refine AC_seq fun K9 hK9 => ?_
    refine AC_region ?_
    refine AL_ev (Ev_move) rfl ?_
    refine AL_fcall0 hT rfl cl118 (c_var03 ((j : Nat) : Int)) rfl rfl ?_
    refine AL_store rfl (nf rfl) rfl rfl rfl rfl rfl rfl (by rfl) ts41 rfl rfl ?_
    refine AL_nil ?_
    refine hK9 _ _ _ ?_
    refine AC_ret ?_
    exact retr_ok ((s, .mk 1 ⟨#[]⟩ ((j : Nat) : Int) [])) (by simp only [varM]; simp_all [findV]) [0, 1] (CExt.refl _) (.cell rfl rfl rfl rfl rfl rfl ts41 ta41 (by rfl) (by intro h; cases h) .nil) rfl rfl (BxF_stay rfl rfl rfl rfl rfl (.cons (.agg (.cons .d (.cons .d (.cons .d (.cons .d (.cons (.ref rfl) .nil)))))) .nil) rfl (BxF_cons rfl rfl rfl rfl rfl (VxL_d _) (Nat.le_refl _) BxF_nil)) (Nat.le_of_ble_eq_true rfl) (.cons .d .nil)
   ·refine AC_skip ?_
    refine hK7 _ _ _ ?_
    refine AC_region ?_
    refine AL_ev (Ev_move) rfl ?_
    refine AL_ev (Ev_add rfl rfl _ (wrap_id (by omega) (by omega))) rfl ?_
    refine AL_ev (Ev_assign) rfl ?_
    refine AL_nil ?_
    refine closeS (j + 1) [some 0, some 1, some 2] rfl rfl (by show s.ns.length - (j + 1) < s.ns.length - j; omega) ⟨by omega, by rw [hI, hdr]; simp_all [findV]⟩ (BxTo_some rfl rfl rfl rfl (.cons (.agg (.cons (.rd .d) (.cons (.rd .d) (.cons (.rd .d) (.cons (.rd .d) (.cons (.ref rfl) .nil)))))) .nil) (BxTo_some rfl rfl rfl rfl (VwL_d _) (BxTo_some rfl rfl rfl rfl (.cons (.rd .d) .nil) BxTo_nil))) (SlTo_cons (by exact .rd .d) (SlTo_cons (by exact .ptr rfl) (SlTo_cons (by exact .rd .d) (SlTo_cons (by exact .ptr rfl) SlTo_nil))))
  ·have hj2 : j = s.ns.length := by have := of_decide_eq_false hc2; omega
   have hno : findV s.ns w 0 = none := by rw [hI, hj2, List.drop_length]; rfl
   refine AC_exit ?_
   refine hK2 _ _ _ ?_
   refine AC_seq fun K10 hK10 => ?_
   refine AC_region ?_
   refine AL_ev (Ev_move) rfl ?_
   refine AL_ev (Ev_move) rfl ?_
   refine AL_ev (Ev_nilc_ptr rfl) rfl ?_
   refine AL_ev (Ev_fa_ptr rfl fa145_4 rfl rfl) rfl ?_
   refine AL_ev (Ev_load_ptr rfl rfl rfl rfl rfl rfl ts25 ta25 rfl (fun _ => rfl)) rfl ?_
   refine AL_ev (Ev_move) rfl ?_
   refine AL_bD .one rfl te25 ts9 tz9 rfl rfl (by decide) (by decide) (by rfl) rfl ?_
   refine AL_append rfl rfl rfl te25 ts9 tz9 rfl tb9 (by decide) (by decide) rfl (by (simp; done)) (Src_sl rfl) (by simp only [lim]; (simp; omega)) _ rfl rfl ?_
   refine AL_ev (Ev_nilc_ptr rfl) rfl ?_
   refine AL_ev (Ev_fa_ptr rfl fa145_4 rfl rfl) rfl ?_
   refine AL_store rfl (nf rfl) rfl rfl rfl rfl rfl rfl (by rfl) ts25 rfl rfl ?_
   refine AL_nil ?_
   refine hK10 _ _ _ ?_
   refine AC_seq fun K11 hK11 => ?_
   refine AC_region ?_
   refine AL_ev (Ev_move) rfl ?_
   refine AL_ev (Ev_nilc_ptr rfl) rfl ?_
   refine AL_ev (Ev_fa_ptr rfl fa145_4 rfl rfl) rfl ?_
   refine AL_ev (Ev_load_ptr rfl rfl rfl rfl rfl rfl ts25 ta25 rfl (fun _ => rfl)) rfl ?_
   refine AL_limB (x := (Operand.tmp 41)) rfl rfl (by (simp; done)) fun hl2 => ?_
   try simp only [injs_length, ints_length, strs_length, injCs_length, u8s_length, List.length_map] at hl2
   refine AL_ev (Ev_len_ref te25 rfl) rfl ?_
   refine AL_ev (Ev_sub rfl rfl _ (wrap_id (by omega) (by (simp; omega)))) rfl ?_
   refine AL_fcall0 hT rfl cl118 (c_var03 _) rfl rfl ?_
   refine AL_store rfl (nf rfl) rfl rfl rfl rfl rfl rfl (by rfl) ts41 rfl rfl ?_
   refine AL_nil ?_
   refine hK11 _ _ _ ?_
   refine AC_ret ?_
   exact retr_ok (({ s with ns := s.ns ++ [w] }, .mk 1 ⟨#[]⟩ s.ns.length [])) (by have hq : ¬ w = ⟨#[95]⟩ := (by simpa using hc1); simp only [varM]; rw [if_neg hq, hno]) [0, 3] (CExt.refl _) (.cell rfl rfl rfl rfl rfl rfl ts41 ta41 (by rfl) (by intro h; cases h) .nil) rfl rfl (BxF_stay rfl rfl rfl rfl rfl (.cons (.agg (.cons .d (.cons .d (.cons .d (.cons .d (.cons (Vx_refe rfl (by simp)) .nil)))))) .nil) rfl (BxF_cons rfl rfl rfl rfl rfl (VxL_ds (by simp [strs])) (Nat.le_refl _) BxF_nil)) (Nat.le_of_ble_eq_true rfl) (VxL_d1 (by simp))
 ·refine AC_skip ?_
  refine hK2 _ _ _ ?_
  refine AC_seq fun K12 hK12 => ?_
  refine AC_region ?_
  refine AL_ev (Ev_move) rfl ?_
  refine AL_ev (Ev_move) rfl ?_
  refine AL_ev (Ev_nilc_ptr rfl) rfl ?_
  refine AL_ev (Ev_fa_ptr rfl fa145_4 rfl rfl) rfl ?_
  refine AL_ev (Ev_load_ptr rfl rfl rfl rfl rfl rfl ts25 ta25 rfl (fun _ => rfl)) rfl ?_
  refine AL_ev (Ev_move) rfl ?_
  refine AL_bD .one rfl te25 ts9 tz9 rfl rfl (by decide) (by decide) (by rfl) rfl ?_
  refine AL_append rfl rfl rfl te25 ts9 tz9 rfl tb9 (by decide) (by decide) rfl (by (simp; done)) (Src_sl rfl) (by simp only [lim]; (simp; omega)) _ rfl rfl ?_
  refine AL_ev (Ev_nilc_ptr rfl) rfl ?_
  refine AL_ev (Ev_fa_ptr rfl fa145_4 rfl rfl) rfl ?_
  refine AL_store rfl (nf rfl) rfl rfl rfl rfl rfl rfl (by rfl) ts25 rfl rfl ?_
  refine AL_nil ?_
  refine hK12 _ _ _ ?_
  refine AC_seq fun K13 hK13 => ?_
  refine AC_region ?_
  refine AL_ev (Ev_move) rfl ?_
  refine AL_ev (Ev_nilc_ptr rfl) rfl ?_
  refine AL_ev (Ev_fa_ptr rfl fa145_4 rfl rfl) rfl ?_
  refine AL_ev (Ev_load_ptr rfl rfl rfl rfl rfl rfl ts25 ta25 rfl (fun _ => rfl)) rfl ?_
  refine AL_limB (x := (Operand.tmp 41)) rfl rfl (by (simp; done)) fun hl3 => ?_
  try simp only [injs_length, ints_length, strs_length, injCs_length, u8s_length, List.length_map] at hl3
  refine AL_ev (Ev_len_ref te25 rfl) rfl ?_
  refine AL_ev (Ev_sub rfl rfl _ (wrap_id (by omega) (by (simp; omega)))) rfl ?_
  refine AL_fcall0 hT rfl cl118 (c_var03 _) rfl rfl ?_
  refine AL_store rfl (nf rfl) rfl rfl rfl rfl rfl rfl (by rfl) ts41 rfl rfl ?_
  refine AL_nil ?_
  refine hK13 _ _ _ ?_
  refine AC_ret ?_
  exact retr_ok (({ s with ns := s.ns ++ [w] }, .mk 1 ⟨#[]⟩ s.ns.length [])) (by have hq : w = ⟨#[95]⟩ := (by simpa using hc1); simp only [varM]; rw [if_pos hq]) [0, 3] (CExt.refl _) (.cell rfl rfl rfl rfl rfl rfl ts41 ta41 (by rfl) (by intro h; cases h) .nil) rfl rfl (BxF_stay rfl rfl rfl rfl rfl (.cons (.agg (.cons .d (.cons .d (.cons .d (.cons .d (.cons (Vx_refe rfl (by simp)) .nil)))))) .nil) rfl (BxF_cons rfl rfl rfl rfl rfl (VxL_ds (by simp [strs])) (Nat.le_refl _) BxF_nil)) (Nat.le_of_ble_eq_true rfl) (VxL_d1 (by simp))
end Go.Proofs.YtjgliechbnommaaGreatDoor
set_option linter.unusedVariables false
set_option linter.unusedSimpArgs false
namespace Go.Proofs.YtjgliechbnommaaGreatDoor
open Go.Eng
theorem cl121 : Callable Tryz.prog 121 := Callable_of Tryz.func121 (by kernel_rfl) (by kernel_rfl)
theorem cl139 : Callable Tryz.prog 139 := Callable_of Tryz.func139 (by kernel_rfl) (by kernel_rfl)
theorem cl186 : Callable Tryz.prog 186 := Callable_of Tryz.func186 (by kernel_rfl) (by kernel_rfl)
theorem cl58 : Callable Tryz.prog 58 := Callable_of Tryz.func58 (by kernel_rfl) (by kernel_rfl)
set_option maxHeartbeats 4000000 in
set_option maxRecDepth 4000 in
theorem c_some (xs : List Sg) (s : Rs) (hl : xs.length ≤ 1048576) (d : Int) (n : Nat) (tm : Int → Rs → Rs × T) (htm : TmC Tryz.prog 139 145 9 xs d n tm) (hok : TmOk xs d n tm) (w : ByteArray) (hs : Okr xs d s) (hn : s.bad = false → xs.length + 2 ≤ n + s.i) (M : Rs × List T) (hM : someM xs tm (xs.length + 3) s [] = M) : RcC Tryz.prog 183 145 9 xs s [.d (.c (.string w))] ((M.1, .mk 4 w 0 M.2)) (fun t => [.d (inj t)]) := by
 refine HCallX_of (n := 34) Tryz.func183 rfl rfl (Nat.le_of_ble_eq_true rfl) (Nat.le_of_ble_eq_true rfl) fun C0 o hT => ?_
 refine AC_seq fun K1 hK1 => ?_
 refine AC_region ?_
 refine AL_alloc zo41 _ rfl rfl ?_
 refine AL_nil ?_
 refine hK1 _ _ _ ?_
 refine AC_seq fun K2 hK2 => ?_
 refine AC_region ?_
 refine AL_ev (Ev_move) rfl ?_
 refine AL_ev (Ev_build (fs := [.one, .one, .one, .one]) (zs := [.c (.int .i64 0), .c (.string ⟨#[]⟩), .c (.int .i64 0), .c (.slice none 0 0)]) tz41 rfl tpl41 (.cons rfl rfl (by rfl) (.cons rfl rfl (by rfl) .nil))) rfl ?_
 refine AL_alloc zo41 _ rfl rfl ?_
 refine AL_store rfl (nf rfl) rfl rfl rfl rfl rfl rfl (by rfl) ts41 rfl rfl ?_
 refine AL_nil ?_
 refine hK2 _ _ _ ?_
 refine AC_seq fun K3 hK3 => ?_
 refine AC_block ?_
 refine AC_loopS [] (Nat × Rs × List T) (fun q => [(0, .ptr LRD 0 0 []), (4, .ptr LT 2 0 []), (5, .ptr LT 3 0 [])]) (fun q => [some (rBox ⟨145, some (o 0)⟩ 1 xs q.2.1), some (nBox 9 q.2.1), some ⟨41, LT, [.d zT]⟩, some ⟨41, LT, [.agg [.one, .one, .one, .one] [.d (.c (.int .i64 4)), .d (.c (.string w)), .d (.c (.int .i64 0)), .ref LT 4 0 q.2.2.length]]⟩, some ⟨41, LT, (injs q.2.2).map V.d⟩]) (fun q => q.1) (fun q => someM xs tm q.1 q.2.1 q.2.2 = M ∧ Okr xs d q.2.1 ∧ (q.2.1.bad = false → xs.length + 2 ≤ q.1 + q.2.1.i ∧ xs.length + 2 ≤ n + q.2.1.i) ∧ q.2.2.length ≤ 5) ((xs.length + 3, s, [])) ?_ ?_ ?_
 ·refine Wk.then (Wk_nil_box 3 0 [3] 41 LT rfl rfl rfl rfl 4 rfl rfl ?_)
  exact enterS [some 0, some 1, some 2, some 3, some 4] rfl rfl (BxTo_some rfl rfl rfl rfl (.cons (.agg (.cons (.rd .d) (.cons (.rd .d) (.cons (.rd .d) (.cons (.rd .d) (.cons (.ref rfl) .nil)))))) .nil) (BxTo_some rfl rfl rfl rfl (VwL_d _) (BxTo_some rfl rfl rfl rfl (.cons (.rd .d) .nil) (BxTo_some rfl rfl rfl rfl (.cons (.agg (.cons (.rd .d) (.cons (.rd .d) (.cons (.rd .d) (.cons (.ref rfl) .nil))))) .nil) (BxTo_some rfl rfl rfl rfl .nil BxTo_nil))))) (SlTo_cons (by exact .ptr rfl) (SlTo_cons (by exact .ptr rfl) (SlTo_cons (by exact .ptr rfl) SlTo_nil)))
 ·exact ⟨hM, hs, fun h => ⟨by show xs.length + 2 ≤ xs.length + 3 + s.i; omega, hn h⟩, by show 0 ≤ 5; omega⟩
 rintro ⟨m, s0, ks⟩ ⟨hI, hok0, hf0, hk0⟩
 simp only at hI hok0 hf0 hk0
 refine AC_seq fun K4 hK4 => ?_
 refine AC_seq fun K5 hK5 => ?_
 refine AC_region ?_
 refine AL_ev (Ev_move) rfl ?_
 refine AL_ev (Ev_nilc_ptr rfl) rfl ?_
 refine AL_ev (Ev_fa_ptr rfl fa145_2 rfl rfl) rfl ?_
 refine AL_ev (Ev_load_ptr rfl rfl rfl rfl rfl rfl ts4 ta4 rfl (fun _ => rfl)) rfl ?_
 refine AL_ev (Ev_not rfl) rfl ?_
 refine AL_nil ?_
 refine hK5 _ _ _ ?_
 refine AC_cond rfl (fun hc1 => ?_) (fun hc1 => ?_)
 ·have hb0 : s0.bad = false := by simpa using hc1
  have hfb := hf0 hb0
  have hi9 := hok0.hi
  refine Exists.elim (show ∃ m1, m = m1 + 1 from ⟨m - 1, by omega⟩) fun m1 hm1 => ?_
  subst hm1
  have hp1 := hok 999 s0 hok0 hb0 hfb.2
  simp only [someM, hb0, Bool.false_eq_true, if_false] at hI
  refine AC_skip ?_
  refine hK4 _ _ _ ?_
  refine AC_block ?_
  refine AC_seq fun K6 hK6 => ?_
  refine AC_region ?_
  refine AL_ev (Ev_move) rfl ?_
  refine AL_rcc hT 0 5 rfl cl139 (htm 999 s0 hok0 hb0 hfb.2) rfl (.cons .d .nil) rfl rfl rfl rfl rfl (fun _ => (.cons .d .nil)) rfl ?_
  rintro ⟨s1, t1⟩ hz1
  rw [← hz1] at hI hp1
  try simp only at hI
  try simp only at hp1
  have hq1 := hp1.ok
  have hi1 := hq1.hi
  have hle1 := hp1.le
  have hlt1 := hp1.lt
  refine AL_alloc zo41 _ rfl rfl ?_
  refine AL_store rfl (nf rfl) rfl rfl rfl rfl rfl rfl (by simp [Lay.len, Lay.lens]) ts41 rfl rfl ?_
  refine AL_nil ?_
  refine hK6 _ _ _ ?_
  refine AC_seq fun K7 hK7 => ?_
  refine AC_seq fun K8 hK8 => ?_
  refine AC_region ?_
  refine AL_ev (Ev_fa_ptr rfl fa41_3 rfl rfl) rfl ?_
  refine AL_ev (Ev_load_ptr rfl rfl rfl rfl rfl rfl ts39 ta39 rfl (fun _ => rfl)) rfl ?_
  refine AL_limB (x := (Operand.tmp 17)) rfl rfl (by (simp; done)) fun hl1 => ?_
  try simp only [injs_length, ints_length, strs_length, injCs_length, u8s_length, List.length_map] at hl1
  refine AL_ev (Ev_len_ref te39 rfl) rfl ?_
  refine AL_ev (Ev_geq rfl rfl) rfl ?_
  refine AL_nil ?_
  refine hK8 _ _ _ ?_
  refine AC_cond rfl (fun hc2 => ?_) (fun hc2 => ?_)
  ·have h5 : 5 ≤ ks.length := by have h := of_decide_eq_true hc2; exact Int.ofNat_le.1 h
   rw [if_pos h5] at hI
   refine AC_seq fun K9 hK9 => ?_
   refine AC_region ?_
   refine AL_ev (Ev_move) rfl ?_
   refine AL_ev (Ev_nilc_ptr rfl) rfl ?_
   refine AL_ev (Ev_fa_ptr rfl fa145_2 rfl rfl) rfl ?_
   refine AL_store rfl (nf rfl) rfl rfl rfl rfl rfl rfl (by rfl) ts4 rfl rfl ?_
   refine AL_nil ?_
   refine hK9 _ _ _ ?_
   refine AC_exit ?_
   refine hK3 _ _ _ ?_
   refine AC_seq fun K10 hK10 => ?_
   refine AC_region ?_
   refine AL_ev (Ev_load_ptr rfl rfl rfl rfl rfl rfl ts41 ta41 (by rfl) (by intro h; cases h)) rfl ?_
   refine AL_store rfl (nf rfl) rfl rfl rfl rfl rfl rfl (by rfl) ts41 rfl rfl ?_
   refine AL_nil ?_
   refine hK10 _ _ _ ?_
   refine AC_ret ?_
   refine fin_of_wk (enterS (ks := []) (g := fun _ => V.any) (ms := [(4, .ptr LT 2 0 [])]) (L2 := [some (rBox ⟨145, some (o 0)⟩ 1 xs ({ s1 with bad := true })), some (nBox 9 ({ s1 with bad := true })), some ⟨41, LT, [.d (inj (.mk 4 w 0 ks))]⟩]) [some 5, some 6, some 2] rfl rfl (BxTo_some rfl rfl rfl rfl (.cons (.agg (.cons (.rd .d) (.cons (.rd .d) (.cons (.rd .d) (.cons (.rd .d) (.cons (.ref rfl) .nil)))))) .nil) (BxTo_some rfl rfl rfl rfl (VwL_d _) (BxTo_some rfl rfl rfl rfl (.cons (.rd (.agg (.cons .d (.cons .d (.cons .d (.cons (.ref (srcFree rfl) rfl rfl (by simp) (ReadsL_d _)) .nil)))))) .nil) BxTo_nil))) (SlTo_cons (by exact .ptr rfl) SlTo_nil)) ?_
   rintro f L ⟨rfl, rfl⟩
   exact retr_ok (({ s1 with bad := true }, .mk 4 w 0 ks)) (by rw [← hI]) [0, 1] (CExt.refl _) (.cell rfl rfl rfl rfl rfl rfl ts41 ta41 (by rfl) (by intro h; cases h) .nil) rfl rfl (BxF_stay rfl rfl rfl rfl rfl (.cons (.agg (.cons .d (.cons .d (.cons .d (.cons .d (.cons (.ref rfl) .nil)))))) .nil) rfl (BxF_cons rfl rfl rfl rfl rfl (VxL_d _) (Nat.le_refl _) BxF_nil)) (Nat.le_of_ble_eq_true rfl) (.cons .d .nil)
  ·have h5 : ¬ 5 ≤ ks.length := fun h => of_decide_eq_false hc2 (Int.ofNat_le.2 h)
   rw [if_neg h5] at hI
   refine AC_skip ?_
   refine hK7 _ _ _ ?_
   refine AC_seq fun K11 hK11 => ?_
   refine AC_region ?_
   refine AL_ev (Ev_fa_ptr rfl fa41_3 rfl rfl) rfl ?_
   refine AL_ev (Ev_load_ptr rfl rfl rfl rfl rfl rfl ts39 ta39 rfl (fun _ => rfl)) rfl ?_
   refine AL_ev (Ev_load_ptr rfl rfl rfl rfl rfl rfl ts41 ta41 (by simp) (by intro h; cases h)) rfl ?_
   refine AL_bD (Lay.st [.one, .one, .one, .one]) rfl te39 ts41 tz41 rfl rfl (by decide) (by decide) (by simp [lenDs, goodVs, goodV, V.known, Lay.len, Lay.lens]) rfl ?_
   refine AL_append rfl rfl rfl te39 ts41 tz41 rfl tb41 (by decide) (by decide) rfl (by (simp; done)) (Src_sl rfl) (by simp only [lim]; (simp; omega)) _ rfl rfl ?_
   refine AL_ev (Ev_fa_ptr rfl fa41_3 rfl rfl) rfl ?_
   refine AL_store rfl (nf rfl) rfl rfl rfl rfl rfl rfl (by rfl) ts39 rfl rfl ?_
   refine AL_nil ?_
   refine hK11 _ _ _ ?_
   refine AC_seq fun K12 hK12 => ?_
   refine AC_seq fun K13 hK13 => ?_
   refine AC_region ?_
   refine AL_ev (Ev_move) rfl ?_
   refine AL_rcc hT 5 9 rfl cl173 (c_mark xs s1 hl ⟨#[41]⟩ hi1) rfl (.cons .d .nil) rfl rfl rfl rfl rfl (fun _ => (.cons .d .nil)) rfl ?_
   rintro ⟨s2, t2⟩ hz2
   refine AL_nil ?_
   refine hK13 _ _ _ ?_
   refine AC_cond rfl (fun hc3 => ?_) (fun hc3 => ?_)
   ·subst hc3
    have hm2 := mark_t hz2
    rw [if_pos hm2.1] at hI
    refine AC_exit ?_
    refine hK3 _ _ _ ?_
    refine AC_seq fun K14 hK14 => ?_
    refine AC_region ?_
    refine AL_ev (Ev_load_ptr rfl rfl rfl rfl rfl rfl ts41 ta41 (by rfl) (by intro h; cases h)) rfl ?_
    refine AL_store rfl (nf rfl) rfl rfl rfl rfl rfl rfl (by rfl) ts41 rfl rfl ?_
    refine AL_nil ?_
    refine hK14 _ _ _ ?_
    refine AC_ret ?_
    refine fin_of_wk (enterS (ks := []) (g := fun _ => V.any) (ms := [(4, .ptr LT 2 0 [])]) (L2 := [some (rBox ⟨145, some (o 0)⟩ 1 xs (s2)), some (nBox 9 (s2)), some ⟨41, LT, [.d (inj (.mk 4 w 0 (ks ++ [t1])))]⟩]) [some 9, some 10, some 2] rfl rfl (BxTo_some rfl rfl rfl rfl (.cons (.agg (.cons (.rd .d) (.cons (.rd .d) (.cons (.rd .d) (.cons (.rd .d) (.cons (.ref rfl) .nil)))))) .nil) (BxTo_some rfl rfl rfl rfl (VwL_d _) (BxTo_some rfl rfl rfl rfl (.cons (.rd (.agg (.cons .d (.cons .d (.cons .d (.cons (.ref (srcFree rfl) rfl rfl (by simp) (ReadsL_eq (by simp [injs_map]))) .nil)))))) .nil) BxTo_nil))) (SlTo_cons (by exact .ptr rfl) SlTo_nil)) ?_
    rintro f L ⟨rfl, rfl⟩
    exact retr_ok ((s2, .mk 4 w 0 (ks ++ [t1]))) (by rw [← hI, hm2.2]) [0, 1] (CExt.refl _) (.cell rfl rfl rfl rfl rfl rfl ts41 ta41 (by rfl) (by intro h; cases h) .nil) rfl rfl (BxF_stay rfl rfl rfl rfl rfl (.cons (.agg (.cons .d (.cons .d (.cons .d (.cons .d (.cons (.ref rfl) .nil)))))) .nil) rfl (BxF_cons rfl rfl rfl rfl rfl (VxL_d _) (Nat.le_refl _) BxF_nil)) (Nat.le_of_ble_eq_true rfl) (.cons .d .nil)
   ·subst hc3
    have hm2 := mark_f hz2
    rw [if_neg (by rw [hm2.1]; decide)] at hI
    refine AC_skip ?_
    refine hK12 _ _ _ ?_
    refine AC_region ?_
    refine AL_ev (Ev_move) rfl ?_
    refine AL_rcc hT 9 11 rfl cl186 (c_wants xs s2 hl ⟨#[44]⟩ (by rw [hm2.2]; exact hi1)) rfl (.cons .d .nil) rfl rfl rfl rfl rfl (fun _ => .nil) rfl ?_
    rintro ⟨s3, t3⟩ hz3
    have hs3 : s3 = wantsM xs s1 ⟨#[44]⟩ := by rw [← hm2.2]; exact congrArg Prod.fst hz3
    have hw3 := wants_ok ⟨#[44]⟩ hq1
    rw [← hs3] at hw3 hI
    refine AL_nil ?_
    refine closeS (m1, s3, ks ++ [t1]) [some 11, some 12, some 2, some 3, some 8] rfl rfl (Nat.lt_succ_self _) ⟨hI, hw3.1, fun h => ⟨by have a := hw3.2.2.2 h; have b := hlt1 a.1; show xs.length + 2 ≤ m1 + s3.i; omega, by have a := hw3.2.2.2 h; have b := hlt1 a.1; show xs.length + 2 ≤ n + s3.i; omega⟩, by show (ks ++ [t1]).length ≤ 5; simp; omega⟩ (BxTo_some rfl rfl rfl rfl (.cons (.agg (.cons (.rd .d) (.cons (.rd .d) (.cons (.rd .d) (.cons (.rd .d) (.cons (.ref rfl) .nil)))))) .nil) (BxTo_some rfl rfl rfl rfl (VwL_d _) (BxTo_some rfl rfl rfl rfl (.cons (.rd .d) .nil) (BxTo_some rfl rfl rfl rfl (.cons (.agg (.cons (.rd .d) (.cons (.rd .d) (.cons (.rd .d) (.cons (Vw_refe rfl (by simp)) .nil))))) .nil) (BxTo_some rfl rfl rfl rfl (VwL_app (by simp [injs_map])) BxTo_nil))))) (SlTo_cons (by exact .ptr rfl) (SlTo_cons (by exact .ptr rfl) (SlTo_cons (by exact .ptr rfl) SlTo_nil)))
 ·have hb0 : s0.bad = true := by simpa using hc1
  have hE : M = (s0, ks) := by rw [← hI]; cases m <;> simp [someM, hb0]
  refine AC_exit ?_
  refine hK3 _ _ _ ?_
  refine AC_seq fun K15 hK15 => ?_
  refine AC_region ?_
  refine AL_ev (Ev_load_ptr rfl rfl rfl rfl rfl rfl ts41 ta41 (by rfl) (by intro h; cases h)) rfl ?_
  refine AL_store rfl (nf rfl) rfl rfl rfl rfl rfl rfl (by rfl) ts41 rfl rfl ?_
  refine AL_nil ?_
  refine hK15 _ _ _ ?_
  refine AC_ret ?_
  refine fin_of_wk (enterS (ks := []) (g := fun _ => V.any) (ms := [(4, .ptr LT 2 0 [])]) (L2 := [some (rBox ⟨145, some (o 0)⟩ 1 xs (s0)), some (nBox 9 (s0)), some ⟨41, LT, [.d (inj (.mk 4 w 0 ks))]⟩]) [some 0, some 1, some 2] rfl rfl (BxTo_some rfl rfl rfl rfl (.cons (.agg (.cons (.rd .d) (.cons (.rd .d) (.cons (.rd .d) (.cons (.rd .d) (.cons (.ref rfl) .nil)))))) .nil) (BxTo_some rfl rfl rfl rfl (VwL_d _) (BxTo_some rfl rfl rfl rfl (.cons (.rd (.agg (.cons .d (.cons .d (.cons .d (.cons (.ref (srcFree rfl) rfl rfl (by simp) (ReadsL_d _)) .nil)))))) .nil) BxTo_nil))) (SlTo_cons (by exact .ptr rfl) SlTo_nil)) ?_
  rintro f L ⟨rfl, rfl⟩
  exact retr_ok ((s0, .mk 4 w 0 ks)) (by rw [hE]) [0, 1] (CExt.refl _) (.cell rfl rfl rfl rfl rfl rfl ts41 ta41 (by rfl) (by intro h; cases h) .nil) rfl rfl (BxF_stay rfl rfl rfl rfl rfl (.cons (.agg (.cons .d (.cons .d (.cons .d (.cons .d (.cons (.ref rfl) .nil)))))) .nil) rfl (BxF_cons rfl rfl rfl rfl rfl (VxL_d _) (Nat.le_refl _) BxF_nil)) (Nat.le_of_ble_eq_true rfl) (.cons .d .nil)
set_option maxHeartbeats 8000000 in
set_option maxRecDepth 4000 in
theorem c_row (xs : List Sg) (s : Rs) (hl : xs.length ≤ 1048576) (d : Int) (n : Nat) (tm : Int → Rs → Rs × T) (htm : TmC Tryz.prog 139 145 9 xs d n tm) (hok : TmOk xs d n tm) (hs : Okr xs d s) (hb : s.bad = false) (hn : xs.length + 2 ≤ n + s.i) (M : Rs × List T × T) (hM : rowL xs tm (xs.length + 3) s [] = M) : RcC Tryz.prog 175 145 9 xs s [] (rowM xs tm s) (fun t => [.d (inj t)]) := by
 refine HCallX_of (n := 45) Tryz.func175 rfl rfl (Nat.le_of_ble_eq_true rfl) (Nat.le_of_ble_eq_true rfl) fun C0 o hT => ?_
 refine AC_seq fun K1 hK1 => ?_
 refine AC_region ?_
 refine AL_alloc zo41 _ rfl rfl ?_
 refine AL_nil ?_
 refine hK1 _ _ _ ?_
 refine AC_seq fun K2 hK2 => ?_
 refine AC_seq fun K3 hK3 => ?_
 refine AC_region ?_
 refine AL_ev (Ev_move) rfl ?_
 refine AL_rcc hT 0 3 rfl cl173 (c_mark xs s hl ⟨#[93]⟩ hs.hi) rfl (.cons .d .nil) rfl rfl rfl rfl rfl (fun _ => (.cons .d .nil)) rfl ?_
 rintro ⟨s1, t1⟩ hz1
 refine AL_nil ?_
 refine hK3 _ _ _ ?_
 refine AC_cond rfl (fun hc1 => ?_) (fun hc1 => ?_)
 ·subst hc1
  have hm1 := mark_t hz1
  refine AC_seq fun K4 hK4 => ?_
  refine AC_region ?_
  refine AL_fcall0 hT rfl cl58 (c_atom03 nmNil) rfl rfl ?_
  refine AL_store rfl (nf rfl) rfl rfl rfl rfl rfl rfl (by rfl) ts41 rfl rfl ?_
  refine AL_nil ?_
  refine hK4 _ _ _ ?_
  refine AC_ret ?_
  exact retr_ok ((s1, atom0 nmNil)) (by simp only [rowM]; rw [if_pos hm1.1, hm1.2]) [3, 4] (CExt.refl _) (.cell rfl rfl rfl rfl rfl rfl ts41 ta41 (by rfl) (by intro h; cases h) .nil) rfl rfl (BxF_stay rfl rfl rfl rfl rfl (.cons (.agg (.cons .d (.cons .d (.cons .d (.cons .d (.cons (.ref rfl) .nil)))))) .nil) rfl (BxF_cons rfl rfl rfl rfl rfl (VxL_d _) (Nat.le_refl _) BxF_nil)) (Nat.le_of_ble_eq_true rfl) (.cons .d .nil)
 ·subst hc1
  have hm1 := mark_f hz1
  refine AC_skip ?_
  refine hK2 _ _ _ ?_
  refine AC_seq fun K5 hK5 => ?_
  refine AC_region ?_
  refine AL_bV (Lay.st [.one, .one, .one, .one]) rfl te39 ts41 tz41 rfl rfl (by decide) (by decide) (by rfl) _ rfl rfl ?_
  refine AL_ev (Ev_assign) rfl ?_
  refine AL_nil ?_
  refine hK5 _ _ _ ?_
  refine AC_seq fun K6 hK6 => ?_
  refine AC_region ?_
  refine AL_fcall0 hT rfl cl58 (c_atom03 nmNil) rfl rfl ?_
  refine AL_alloc zo41 _ rfl rfl ?_
  refine AL_store rfl (nf rfl) rfl rfl rfl rfl rfl rfl (by rfl) ts41 rfl rfl ?_
  refine AL_nil ?_
  refine hK6 _ _ _ ?_
  refine AC_seqJ (fun f L => f = FS [] (fun _ => V.any) [(0, .ptr LRD 0 0 []), (2, .ptr LT 2 0 []), (3, .d (.sl LT (injs M.2.1))), (4, .ptr LT 3 0 [])] ∧ L = [some (rBox ⟨145, some (o 0)⟩ 1 xs M.1), some (nBox 9 M.1), some ⟨41, LT, [.d zT]⟩, some ⟨41, LT, [.d (inj M.2.2)]⟩]) ?_ ?_
  ·refine AC_block ?_
   refine AC_loopS [] (Nat × Rs × List T) (fun q => [(0, .ptr LRD 0 0 []), (2, .ptr LT 2 0 []), (3, .ref LT 3 0 q.2.2.length), (4, .ptr LT 4 0 [])]) (fun q => [some (rBox ⟨145, some (o 0)⟩ 1 xs q.2.1), some (nBox 9 q.2.1), some ⟨41, LT, [.d zT]⟩, some ⟨41, LT, (injs q.2.2).map V.d⟩, some ⟨41, LT, [.d (inj (atom0 nmNil))]⟩]) (fun q => q.1) (fun q => rowL xs tm q.1 q.2.1 q.2.2 = M ∧ Okr xs d q.2.1 ∧ (q.2.1.bad = false → xs.length + 2 ≤ q.1 + q.2.1.i ∧ xs.length + 2 ≤ n + q.2.1.i) ∧ q.2.2.length + q.1 = xs.length + 3) ((xs.length + 3, s1, [])) ?_ ?_ ?_
   ·exact enterS [some 3, some 4, some 2, some 5, some 6] rfl rfl (BxTo_some rfl rfl rfl rfl (.cons (.agg (.cons (.rd .d) (.cons (.rd .d) (.cons (.rd .d) (.cons (.rd .d) (.cons (.ref rfl) .nil)))))) .nil) (BxTo_some rfl rfl rfl rfl (VwL_d _) (BxTo_some rfl rfl rfl rfl (.cons (.rd .d) .nil) (BxTo_some rfl rfl rfl rfl .nil (BxTo_some rfl rfl rfl rfl (.cons (.rd .d) .nil) BxTo_nil))))) (SlTo_cons (by exact .ptr rfl) (SlTo_cons (by exact .ptr rfl) (SlTo_cons (by exact .ref rfl) (SlTo_cons (by exact .ptr rfl) SlTo_nil))))
   ·exact ⟨by show rowL xs tm (xs.length + 3) s1 [] = M; rw [hm1.2]; exact hM, by show Okr xs d s1; rw [hm1.2]; exact hs, fun h => ⟨by show xs.length + 2 ≤ xs.length + 3 + s1.i; omega, by show xs.length + 2 ≤ n + s1.i; rw [hm1.2]; exact hn⟩, by show 0 + (xs.length + 3) = xs.length + 3; omega⟩
   rintro ⟨m, s0, ks⟩ ⟨hI, hok0, hf0, hk0⟩
   simp only at hI hok0 hf0 hk0
   refine AC_seq fun K8 hK8 => ?_
   refine AC_seq fun K9 hK9 => ?_
   refine AC_region ?_
   refine AL_ev (Ev_move) rfl ?_
   refine AL_ev (Ev_nilc_ptr rfl) rfl ?_
   refine AL_ev (Ev_fa_ptr rfl fa145_2 rfl rfl) rfl ?_
   refine AL_ev (Ev_load_ptr rfl rfl rfl rfl rfl rfl ts4 ta4 rfl (fun _ => rfl)) rfl ?_
   refine AL_ev (Ev_not rfl) rfl ?_
   refine AL_nil ?_
   refine hK9 _ _ _ ?_
   refine AC_cond rfl (fun hc2 => ?_) (fun hc2 => ?_)
   ·have hb0 : s0.bad = false := by simpa using hc2
    have hfb := hf0 hb0
    have hi9 := hok0.hi
    refine Exists.elim (show ∃ m1, m = m1 + 1 from ⟨m - 1, by omega⟩) fun m1 hm1 => ?_
    subst hm1
    have hp2 := hok 999 s0 hok0 hb0 hfb.2
    simp only [rowL, hb0, Bool.false_eq_true, if_false] at hI
    refine AC_skip ?_
    refine hK8 _ _ _ ?_
    refine AC_block ?_
    refine AC_seq fun K10 hK10 => ?_
    refine AC_region ?_
    refine AL_ev (Ev_move) rfl ?_
    refine AL_ev (Ev_move) rfl ?_
    refine AL_rcc hT 0 5 rfl cl139 (htm 999 s0 hok0 hb0 hfb.2) rfl (.cons .d .nil) rfl rfl rfl rfl rfl (fun _ => (.cons .d .nil)) rfl ?_
    rintro ⟨s2, t2⟩ hz2
    rw [← hz2] at hI hp2
    try simp only at hI
    try simp only at hp2
    have hq2 := hp2.ok
    have hi2 := hq2.hi
    have hle2 := hp2.le
    have hlt2 := hp2.lt
    refine AL_bD (Lay.st [.one, .one, .one, .one]) rfl te39 ts41 tz41 rfl rfl (by decide) (by decide) (by simp [lenDs, goodVs, goodV, V.known, Lay.len, Lay.lens]) rfl ?_
    refine AL_append rfl rfl rfl te39 ts41 tz41 rfl tb41 (by decide) (by decide) rfl (by (simp; done)) (Src_sl rfl) (by simp only [lim]; (simp; omega)) _ rfl rfl ?_
    refine AL_ev (Ev_assign) rfl ?_
    refine AL_nil ?_
    refine hK10 _ _ _ ?_
    refine AC_seq fun K11 hK11 => ?_
    refine AC_seq fun K12 hK12 => ?_
    refine AC_wk (Wk_to [some 5, some 6, some 2, some 7, some 4] [(0, .ptr LRD 0 0 []), (2, .ptr LT 2 0 []), (3, .ref LT 3 0 (ks ++ [t2]).length), (4, .ptr LT 4 0 [])] [some (rBox ⟨145, some (o 0)⟩ 1 xs s2), some (nBox 9 s2), some ⟨41, LT, [.d zT]⟩, some ⟨41, LT, (injs (ks ++ [t2])).map V.d⟩, some ⟨41, LT, [.d (inj (atom0 nmNil))]⟩] rfl rfl (BxTo_some rfl rfl rfl rfl (.cons (.agg (.cons (.rd .d) (.cons (.rd .d) (.cons (.rd .d) (.cons (.rd .d) (.cons (.ref rfl) .nil)))))) .nil) (BxTo_some rfl rfl rfl rfl (VwL_d _) (BxTo_some rfl rfl rfl rfl (.cons (.rd .d) .nil) (BxTo_some rfl rfl rfl rfl (by exact VwL_app (by simp [injs_map])) (BxTo_some rfl rfl rfl rfl (.cons (.rd .d) .nil) BxTo_nil))))) (SlTo_cons (.ptr rfl) (SlTo_cons (by exact .ptr rfl) (SlTo_cons (by exact Vw_refe rfl (by simp)) (SlTo_cons (by exact .ptr rfl) SlTo_nil)))) ?_)
    refine AC_region ?_
    refine AL_ev (Ev_move) rfl ?_
    refine AL_rcc hT 0 5 rfl cl173 (c_mark xs s2 hl ⟨#[93]⟩ hi2) rfl (.cons .d .nil) rfl rfl rfl rfl rfl (fun _ => (.cons .d .nil)) rfl ?_
    rintro ⟨s3, t3⟩ hz3
    refine AL_nil ?_
    refine hK12 _ _ _ ?_
    refine AC_cond rfl (fun hc3 => ?_) (fun hc3 => ?_)
    ·subst hc3
     have hm3 := mark_t hz3
     rw [if_pos hm3.1] at hI
     refine AC_exit ?_
     rw [← hm3.2] at hI
     subst hI
     exact fin_wk (enterS (ks := []) (g := fun _ => V.any) [some 5, some 6, some 2, some 4] rfl rfl (BxTo_some rfl rfl rfl rfl (.cons (.agg (.cons (.rd .d) (.cons (.rd .d) (.cons (.rd .d) (.cons (.rd .d) (.cons (.ref rfl) .nil)))))) .nil) (BxTo_some rfl rfl rfl rfl (VwL_d _) (BxTo_some rfl rfl rfl rfl (.cons (.rd .d) .nil) (BxTo_some rfl rfl rfl rfl (.cons (.rd .d) .nil) BxTo_nil)))) (SlTo_cons (.ptr rfl) (SlTo_cons (.ptr rfl) (SlTo_cons (.rd (.ref (srcFree rfl) rfl rfl (by simp) (ReadsL_d _))) (SlTo_cons (.ptr rfl) SlTo_nil)))))
    ·subst hc3
     have hm3 := mark_f hz3
     rw [if_neg (by rw [hm3.1]; decide)] at hI
     refine AC_skip ?_
     refine hK11 _ _ _ ?_
     refine AC_seq fun K13 hK13 => ?_
     refine AC_seq fun K14 hK14 => ?_
     refine AC_region ?_
     refine AL_ev (Ev_move) rfl ?_
     refine AL_rcc hT 5 7 rfl cl173 (c_mark xs s3 hl ⟨#[124]⟩ (by rw [hm3.2]; exact hi2)) rfl (.cons .d .nil) rfl rfl rfl rfl rfl (fun _ => (.cons .d .nil)) rfl ?_
     rintro ⟨s4, t4⟩ hz4
     refine AL_nil ?_
     refine hK14 _ _ _ ?_
     refine AC_cond rfl (fun hc4 => ?_) (fun hc4 => ?_)
     ·subst hc4
      have hm4 := mark_t hz4
      rw [hm3.2] at hm4
      rw [if_pos hm4.1, ← hm4.2] at hI
      have hl4 := isM_lt hm4.1
      have hok4 : Okr xs d s4 := by rw [hm4.2]; exact hq2.adv 1 (by omega)
      have hb4 : s4.bad = false := by rw [hm4.2]; exact hl4.1
      have hn4 : xs.length + 2 ≤ n + s4.i := by rw [hm4.2]; show xs.length + 2 ≤ n + (s2.i + 1); omega
      have hp5 := hok 999 s4 hok4 hb4 hn4
      refine AC_seq fun K15 hK15 => ?_
      refine AC_wk (Wk_to [some 7, some 8, some 2, some 3, some 4] [(0, .ptr LRD 0 0 []), (2, .ptr LT 2 0 []), (3, .ref LT 3 0 (ks ++ [t2]).length), (4, .ptr LT 4 0 [])] [some (rBox ⟨145, some (o 0)⟩ 1 xs s4), some (nBox 9 s4), some ⟨41, LT, [.d zT]⟩, some ⟨41, LT, (injs (ks ++ [t2])).map V.d⟩, some ⟨41, LT, [.d (inj (atom0 nmNil))]⟩] rfl rfl (BxTo_some rfl rfl rfl rfl (.cons (.agg (.cons (.rd .d) (.cons (.rd .d) (.cons (.rd .d) (.cons (.rd .d) (.cons (.ref rfl) .nil)))))) .nil) (BxTo_some rfl rfl rfl rfl (VwL_d _) (BxTo_some rfl rfl rfl rfl (.cons (.rd .d) .nil) (BxTo_some rfl rfl rfl rfl (by exact VwL_d _) (BxTo_some rfl rfl rfl rfl (.cons (.rd .d) .nil) BxTo_nil))))) (SlTo_cons (.ptr rfl) (SlTo_cons (by exact .ptr rfl) (SlTo_cons (by exact Vw_refe rfl (by rfl)) (SlTo_cons (by exact .ptr rfl) SlTo_nil)))) ?_)
      refine AC_region ?_
      refine AL_ev (Ev_move) rfl ?_
      refine AL_rcc hT 0 5 rfl cl139 (htm 999 s4 hok4 hb4 hn4) rfl (.cons .d .nil) rfl rfl rfl rfl rfl (fun _ => (.cons .d .nil)) rfl ?_
      rintro ⟨s5, t5⟩ hz5
      rw [← hz5] at hI hp5
      try simp only at hI
      try simp only at hp5
      have hq5 := hp5.ok
      have hi5 := hq5.hi
      have hle5 := hp5.le
      have hlt5 := hp5.lt
      refine AL_store rfl (nf rfl) rfl rfl rfl rfl rfl rfl (by simp [Lay.len, Lay.lens]) ts41 rfl rfl ?_
      refine AL_nil ?_
      refine hK15 _ _ _ ?_
      refine AC_seq fun K16 hK16 => ?_
      refine AC_region ?_
      refine AL_ev (Ev_move) rfl ?_
      refine AL_rcc hT 5 7 rfl cl186 (c_wants xs s5 hl ⟨#[93]⟩ hi5) rfl (.cons .d .nil) rfl rfl rfl rfl rfl (fun _ => .nil) rfl ?_
      rintro ⟨s6, t6⟩ hz6
      have hs6 : s6 = wantsM xs s5 ⟨#[93]⟩ := congrArg Prod.fst hz6
      rw [← hs6] at hI
      refine AL_nil ?_
      refine hK16 _ _ _ ?_
      refine AC_exit ?_
      subst hI
      exact fin_wk (enterS (ks := []) (g := fun _ => V.any) [some 7, some 8, some 2, some 4] rfl rfl (BxTo_some rfl rfl rfl rfl (.cons (.agg (.cons (.rd .d) (.cons (.rd .d) (.cons (.rd .d) (.cons (.rd .d) (.cons (.ref rfl) .nil)))))) .nil) (BxTo_some rfl rfl rfl rfl (VwL_d _) (BxTo_some rfl rfl rfl rfl (.cons (.rd .d) .nil) (BxTo_some rfl rfl rfl rfl (.cons (.rd .d) .nil) BxTo_nil)))) (SlTo_cons (.ptr rfl) (SlTo_cons (.ptr rfl) (SlTo_cons (.rd (.ref (srcFree rfl) rfl rfl (by simp) (ReadsL_d _))) (SlTo_cons (.ptr rfl) SlTo_nil)))))
     ·subst hc4
      have hm4 := mark_f hz4
      rw [hm3.2] at hm4
      rw [if_neg (by rw [hm4.1]; decide)] at hI
      refine AC_skip ?_
      refine hK13 _ _ _ ?_
      refine AC_region ?_
      refine AL_ev (Ev_move) rfl ?_
      refine AL_rcc hT 7 9 rfl cl186 (c_wants xs s4 hl ⟨#[44]⟩ (by rw [hm4.2]; exact hi2)) rfl (.cons .d .nil) rfl rfl rfl rfl rfl (fun _ => .nil) rfl ?_
      rintro ⟨s7, t7⟩ hz7
      have hs7 : s7 = wantsM xs s2 ⟨#[44]⟩ := by rw [← hm4.2]; exact congrArg Prod.fst hz7
      have hw7 := wants_ok ⟨#[44]⟩ hq2
      rw [← hs7] at hw7 hI
      refine AL_nil ?_
      refine closeS (m1, s7, ks ++ [t2]) [some 9, some 10, some 2, some 3, some 4] rfl rfl (Nat.lt_succ_self _) ⟨hI, hw7.1, fun h => ⟨by have a := hw7.2.2.2 h; have b := hlt2 a.1; show xs.length + 2 ≤ m1 + s7.i; omega, by have a := hw7.2.2.2 h; have b := hlt2 a.1; show xs.length + 2 ≤ n + s7.i; omega⟩, by show (ks ++ [t2]).length + m1 = xs.length + 3; simp; omega⟩ (BxTo_some rfl rfl rfl rfl (.cons (.agg (.cons (.rd .d) (.cons (.rd .d) (.cons (.rd .d) (.cons (.rd .d) (.cons (.ref rfl) .nil)))))) .nil) (BxTo_some rfl rfl rfl rfl (VwL_d _) (BxTo_some rfl rfl rfl rfl (.cons (.rd .d) .nil) (BxTo_some rfl rfl rfl rfl (VwL_d _) (BxTo_some rfl rfl rfl rfl (.cons (.rd .d) .nil) BxTo_nil))))) (SlTo_cons (by exact .ptr rfl) (SlTo_cons (by exact .ptr rfl) (SlTo_cons (Vw_refe rfl rfl) (SlTo_cons (by exact .ptr rfl) SlTo_nil))))
   ·have hb0 : s0.bad = true := by simpa using hc2
    have hE : M = (s0, ks, atom0 nmNil) := by rw [← hI]; cases m <;> simp [rowL, hb0]
    clear hI
    have hI := hE.symm
    refine AC_exit ?_
    subst hI
    exact fin_wk (enterS (ks := []) (g := fun _ => V.any) [some 0, some 1, some 2, some 4] rfl rfl (BxTo_some rfl rfl rfl rfl (.cons (.agg (.cons (.rd .d) (.cons (.rd .d) (.cons (.rd .d) (.cons (.rd .d) (.cons (.ref rfl) .nil)))))) .nil) (BxTo_some rfl rfl rfl rfl (VwL_d _) (BxTo_some rfl rfl rfl rfl (.cons (.rd .d) .nil) (BxTo_some rfl rfl rfl rfl (.cons (.rd .d) .nil) BxTo_nil)))) (SlTo_cons (.ptr rfl) (SlTo_cons (.ptr rfl) (SlTo_cons (.rd (.ref (srcFree rfl) rfl rfl (by simp) (ReadsL_d _))) (SlTo_cons (.ptr rfl) SlTo_nil)))))
  ·rintro f L ⟨rfl, rfl⟩
   refine AC_seq fun K17 hK17 => ?_
   refine AC_seq fun K18 hK18 => ?_
   refine AC_region ?_
   refine AL_ev (Ev_move) rfl ?_
   refine AL_lim (x := (Operand.tmp 31)) rfl fun hl1 => ?_
   try simp only [injs_length, ints_length, strs_length, injCs_length, u8s_length, List.length_map] at hl1
   refine AL_ev (Ev_len_injs te39 rfl) rfl ?_
   refine AL_ev (Ev_sub rfl rfl _ (wrap_id (by omega) (by omega))) rfl ?_
   refine AL_ev (Ev_assign) rfl ?_
   refine AL_nil ?_
   refine hK18 _ _ _ ?_
   refine AC_block ?_
   refine AC_loopS [0, 2, 3, 4] (Nat) (fun j => [(5, i64 ((j : Int) - 1))]) (fun j => [some (rBox ⟨145, some (o 0)⟩ 1 xs M.1), some (nBox 9 M.1), some ⟨41, LT, [.d zT]⟩, some ⟨41, LT, [.d (inj (mkListE M.2.2 (M.2.1.drop j)))]⟩]) (fun j => j) (fun j => j ≤ M.2.1.length) (M.2.1.length) ?_ ?_ ?_
   ·exact enterS [some 0, some 1, some 2, some 3] rfl rfl (BxTo_some rfl rfl rfl rfl (.cons (.agg (.cons (.rd .d) (.cons (.rd .d) (.cons (.rd .d) (.cons (.rd .d) (.cons (.ref rfl) .nil)))))) .nil) (BxTo_some rfl rfl rfl rfl (VwL_d _) (BxTo_some rfl rfl rfl rfl (.cons (.rd .d) .nil) (BxTo_some rfl rfl rfl rfl (VwL_one (by rw [List.drop_length]; rfl)) BxTo_nil)))) (SlTo_cons (by exact .rd .d) (SlTo_cons (by exact .ptr rfl) (SlTo_cons (by exact .ptr rfl) (SlTo_cons (by exact .rd .d) (SlTo_cons (by exact .ptr rfl) SlTo_nil)))))
   ·exact Nat.le_refl _
   intro j1 hj1
   refine AC_seq fun K19 hK19 => ?_
   refine AC_seq fun K20 hK20 => ?_
   refine AC_region ?_
   refine AL_ev (Ev_move) rfl ?_
   refine AL_ev (Ev_geq rfl rfl) rfl ?_
   refine AL_nil ?_
   refine hK20 _ _ _ ?_
   refine AC_cond rfl (fun hc5 => ?_) (fun hc5 => ?_)
   ·have h1 : 0 < j1 := by have := of_decide_eq_true hc5; omega
    obtain ⟨m, rfl⟩ : ∃ m, j1 = m + 1 := ⟨j1 - 1, by omega⟩
    obtain ⟨u, hu⟩ : ∃ u, M.2.1[m]? = some u := ⟨_, List.getElem?_eq_getElem (by omega)⟩
    have hu2 : (injs M.2.1)[(((m + 1 : Nat) : Int) - 1).toNat]? = some (inj u) := by rw [show (((m + 1 : Nat) : Int) - 1).toNat = m by omega]; exact injs_get hu
    refine AC_skip ?_
    refine hK19 _ _ _ ?_
    refine AC_seq fun K21 hK21 => ?_
    refine AC_block ?_
    refine AC_draw hT follows [0, 1, 2, 3, 4, 5, 6] (by kernel_rfl) ?_
    refine DT_ev rfl (EA_move) rfl ?_
    refine DT_ev rfl (EA_move) rfl ?_
    refine DT_ev rfl (EA_ix_sl rfl rfl te39 ts41 (by omega) (by assumption)) rfl ?_
    refine DT_ev rfl (EA_load_rp rfl rfl rfl ts41 ta41 (by simp) (by intro h; cases h)) rfl ?_
    refine DT_ev rfl (EA_load_ptr rfl rfl rfl rfl rfl rfl ts41 ta41 (by simp) (by intro h; cases h)) rfl ?_
    refine DT_fcall0 rfl rfl cl121 (c_two nmDot u (mkListE M.2.2 (M.2.1.drop (m + 1)))) rfl rfl ?_
    refine DT_store rfl rfl (nf rfl) rfl rfl rfl rfl rfl rfl (by rfl) ts41 rfl rfl ?_
    refine DTi.nil ?_
    refine hK21 _ _ _ ?_
    refine AC_region ?_
    refine AL_ev (Ev_move) rfl ?_
    refine AL_ev (Ev_sub rfl rfl _ (wrap_id (by omega) (by omega))) rfl ?_
    refine AL_ev (Ev_assign) rfl ?_
    refine AL_nil ?_
    refine closeS m [some 0, some 1, some 2, some 3] rfl rfl (by show m < m + 1; omega) (by show m ≤ M.2.1.length; omega) (BxTo_some rfl rfl rfl rfl (.cons (.agg (.cons (.rd .d) (.cons (.rd .d) (.cons (.rd .d) (.cons (.rd .d) (.cons (.ref rfl) .nil)))))) .nil) (BxTo_some rfl rfl rfl rfl (VwL_d _) (BxTo_some rfl rfl rfl rfl (.cons (.rd .d) .nil) (BxTo_some rfl rfl rfl rfl (VwL_one (by rw [mkListE_drop hu])) BxTo_nil)))) (SlTo_cons (Vw_int (by omega)) (SlTo_cons (by exact .ptr rfl) (SlTo_cons (by exact .ptr rfl) (SlTo_cons (by exact .rd .d) (SlTo_cons (by exact .ptr rfl) SlTo_nil)))))
   ·refine AC_exit ?_
    refine hK17 _ _ _ ?_
    refine AC_seq fun K22 hK22 => ?_
    refine AC_region ?_
    refine AL_ev (Ev_load_ptr rfl rfl rfl rfl rfl rfl ts41 ta41 (by simp) (by intro h; cases h)) rfl ?_
    refine AL_store rfl (nf rfl) rfl rfl rfl rfl rfl rfl (by simp [Lay.len, Lay.lens]) ts41 rfl rfl ?_
    refine AL_nil ?_
    refine hK22 _ _ _ ?_
    refine AC_ret ?_
    have h1 : j1 = 0 := by have := of_decide_eq_false hc5; omega
    subst h1
    exact retr_ok ((M.1, mkListE M.2.2 M.2.1)) (by simp only [rowM]; rw [if_neg (by rw [hm1.1]; decide), hM]) [0, 1] (CExt.refl _) (.cell rfl rfl rfl rfl rfl rfl ts41 ta41 (by simp) (by intro h; cases h) .nil) rfl rfl (BxF_stay rfl rfl rfl rfl rfl (.cons (.agg (.cons .d (.cons .d (.cons .d (.cons .d (.cons (.ref rfl) .nil)))))) .nil) rfl (BxF_cons rfl rfl rfl rfl rfl (VxL_d _) (Nat.le_refl _) BxF_nil)) (Nat.le_of_ble_eq_true rfl) (.cons .d .nil)
set_option maxHeartbeats 4000000 in
set_option maxRecDepth 4000 in
theorem c_round (xs : List Sg) (s : Rs) (hl : xs.length ≤ 1048576) (d : Int) (n : Nat) (tm : Int → Rs → Rs × T) (htm : TmC Tryz.prog 139 145 9 xs d n tm) (hok : TmOk xs d n tm) (hs : Okr xs d s) (hb : s.bad = false) (hn : xs.length + 2 ≤ n + s.i) : RcC Tryz.prog 174 145 9 xs s [] (roundM xs tm s) (fun t => [.d (inj t)]) := by
 have hsi := hs.hi
 refine HCallX_of (n := 75) Tryz.func174 rfl rfl (Nat.le_of_ble_eq_true rfl) (Nat.le_of_ble_eq_true rfl) fun C0 o hT => ?_
 refine AC_seq fun K1 hK1 => ?_
 refine AC_region ?_
 refine AL_alloc zo41 _ rfl rfl ?_
 refine AL_nil ?_
 refine hK1 _ _ _ ?_
 refine AC_seq fun K2 hK2 => ?_
 refine AC_seq fun K3 hK3 => ?_
 refine AC_draw hT follows [0, 1, 2, 3, 4, 5, 6, 7, 8, 9, 10, 11, 12, 13, 14, 15, 16, 17, 18, 19, 20, 21, 22, 23, 24, 25, 26, 27, 28, 29, 30, 31, 32, 33, 34, 35, 36, 37, 38, 39, 40, 41, 42, 43, 44] (by kernel_rfl) ?_
 refine DT_ev rfl (EA_move) rfl ?_
 refine DT_qcallL rfl rfl cl140 (c_is xs (s) 1 (⟨#[]⟩) (by omega)) (fun C2 => (.cons (.rd (.ptr trivial rfl rfl rfl (.agg (.cons .d (.cons .d (.cons .d (.cons .d (.cons (.ref trivial rfl rfl (by simp) (ReadsL_d _)) .nil)))))))) (.cons (.rd .d) (.cons (.rd .d) .nil)))) rfl ?_
 refine DT_ev rfl (EA_move) rfl ?_
 refine DT_bool 6 rfl (fun hg1 => ?_) (fun hg1 => ?_)
 ·have hm := isM_lt hg1
  refine DT_evt rfl rfl rfl rfl (EA_move) rfl ?_
  refine DT_evt rfl rfl rfl rfl (EA_nilc_ptr rfl) rfl ?_
  refine DT_evt rfl rfl rfl rfl (EA_fa_ptr rfl fa145_1 rfl rfl) rfl ?_
  refine DT_evt rfl rfl rfl rfl (EA_load_ptr rfl rfl rfl rfl rfl rfl ts3 ta3 rfl (fun _ => rfl)) rfl ?_
  refine DT_evt rfl rfl rfl rfl (EA_add rfl rfl _ (wrap_id (by omega) (by omega))) rfl ?_
  refine DT_evt rfl rfl rfl rfl (EA_move) rfl ?_
  refine DT_evt rfl rfl rfl rfl (EA_nilc_ptr rfl) rfl ?_
  refine DT_evt rfl rfl rfl rfl (EA_fa_ptr rfl fa145_0 rfl rfl) rfl ?_
  refine DT_evt rfl rfl rfl rfl (EA_load_ptr rfl rfl rfl rfl rfl rfl ts119 ta119 rfl (fun _ => rfl)) rfl ?_
  refine DT_evt rfl rfl rfl rfl (EA_len_sl te119 rfl) rfl ?_
  refine DT_evt rfl rfl rfl rfl (EA_lss rfl rfl) rfl ?_
  refine DT_ev rfl (EA_pick rfl) rfl ?_
  refine DT_ev rfl (EA_move) rfl ?_
  refine DT_bool 19 rfl (fun hg2 => ?_) (fun hg2 => ?_)
  ·simp only [injGs_length] at hg2
   have hlt : s.i + 1 < xs.length := by have := of_decide_eq_true hg2; omega
   refine Exists.elim (show ∃ v, xs[s.i + 1]? = some v from ⟨_, List.getElem?_eq_getElem hlt⟩) fun y hy => ?_
   have hy3 : (injGs xs)[(((s.i : Nat) : Int) + 1).toNat]? = some (injG y) := by rw [show (((s.i : Nat) : Int) + 1).toNat = s.i + 1 by omega]; simpa using injGs_get hy
   refine DT_evt rfl rfl rfl rfl (EA_move) rfl ?_
   refine DT_evt rfl rfl rfl rfl (EA_nilc_ptr rfl) rfl ?_
   refine DT_evt rfl rfl rfl rfl (EA_fa_ptr rfl fa145_0 rfl rfl) rfl ?_
   refine DT_evt rfl rfl rfl rfl (EA_load_ptr rfl rfl rfl rfl rfl rfl ts119 ta119 rfl (fun _ => rfl)) rfl ?_
   refine DT_evt rfl rfl rfl rfl (EA_move) rfl ?_
   refine DT_evt rfl rfl rfl rfl (EA_nilc_ptr rfl) rfl ?_
   refine DT_evt rfl rfl rfl rfl (EA_fa_ptr rfl fa145_1 rfl rfl) rfl ?_
   refine DT_evt rfl rfl rfl rfl (EA_load_ptr rfl rfl rfl rfl rfl rfl ts3 ta3 rfl (fun _ => rfl)) rfl ?_
   refine DT_evt rfl rfl rfl rfl (EA_add rfl rfl _ (wrap_id (by omega) (by omega))) rfl ?_
   refine DT_evt rfl rfl rfl rfl (EA_ix_sl rfl rfl te119 ts139 (by omega) (by assumption)) rfl ?_
   refine DT_evt rfl rfl rfl rfl (EA_fa_rp rfl fa139_0 rfl rfl) rfl ?_
   refine DT_evt rfl rfl rfl rfl (EA_load_rp rfl rfl rfl ts3 ta3 rfl (fun _ => rfl)) rfl ?_
   refine DT_evt rfl rfl rfl rfl (EA_eql rfl rfl) rfl ?_
   refine DT_ev rfl (EA_pick rfl) rfl ?_
   refine DT_ev rfl (EA_move) rfl ?_
   refine DT_bool 34 rfl (fun hg3 => ?_) (fun hg3 => ?_)
   ·have hk3 : y.k = 4 := of_decide_eq_true hg3
    refine DT_evt rfl rfl rfl rfl (EA_move) rfl ?_
    refine DT_evt rfl rfl rfl rfl (EA_nilc_ptr rfl) rfl ?_
    refine DT_evt rfl rfl rfl rfl (EA_fa_ptr rfl fa145_0 rfl rfl) rfl ?_
    refine DT_evt rfl rfl rfl rfl (EA_load_ptr rfl rfl rfl rfl rfl rfl ts119 ta119 rfl (fun _ => rfl)) rfl ?_
    refine DT_evt rfl rfl rfl rfl (EA_move) rfl ?_
    refine DT_evt rfl rfl rfl rfl (EA_nilc_ptr rfl) rfl ?_
    refine DT_evt rfl rfl rfl rfl (EA_fa_ptr rfl fa145_1 rfl rfl) rfl ?_
    refine DT_evt rfl rfl rfl rfl (EA_load_ptr rfl rfl rfl rfl rfl rfl ts3 ta3 rfl (fun _ => rfl)) rfl ?_
    refine DT_evt rfl rfl rfl rfl (EA_add rfl rfl _ (wrap_id (by omega) (by omega))) rfl ?_
    refine DT_evt rfl rfl rfl rfl (EA_ix_sl rfl rfl te119 ts139 (by omega) (by assumption)) rfl ?_
    refine DT_evt rfl rfl rfl rfl (EA_fa_rp rfl fa139_1 rfl rfl) rfl ?_
    refine DT_evt rfl rfl rfl rfl (EA_load_rp rfl rfl rfl ts9 ta9 rfl (fun _ => rfl)) rfl ?_
    refine DT_evt rfl rfl rfl rfl (EA_seql rfl rfl) rfl ?_
    refine DT_ev rfl (EA_pick rfl) rfl ?_
    refine DTi.nil ?_
    refine hK3 _ _ _ ?_
    refine AC_cond rfl (fun hc4 => ?_) (fun hc4 => ?_)
    ·have hx3 : y.x = ⟨#[41]⟩ := of_decide_eq_true hc4
     have hcl : isM xs s 1 ⟨#[]⟩ = true ∧ closeB xs s = true := ⟨hg1, by simp [closeB, hy, hk3, hx3]⟩
     refine Exists.elim (show ∃ v, xs[s.i]? = some v from ⟨_, List.getElem?_eq_getElem hm.2.1⟩) fun g0 hg0 => ?_
     have hg02 : (injGs xs)[((((s.i : Nat) : Int) + 2) - 2).toNat]? = some (injG g0) := by rw [show ((((s.i : Nat) : Int) + 2) - 2).toNat = s.i by omega]; simpa using injGs_get hg0
     refine AC_seq fun K4 hK4 => ?_
     refine AC_region ?_
     refine AL_ev (Ev_move) rfl ?_
     refine AL_ev (Ev_move) rfl ?_
     refine AL_ev (Ev_nilc_ptr rfl) rfl ?_
     refine AL_ev (Ev_fa_ptr rfl fa145_1 rfl rfl) rfl ?_
     refine AL_ev (Ev_load_ptr rfl rfl rfl rfl rfl rfl ts3 ta3 rfl (fun _ => rfl)) rfl ?_
     refine AL_ev (Ev_add rfl rfl _ (wrap_id (by omega) (by omega))) rfl ?_
     refine AL_ev (Ev_nilc_ptr rfl) rfl ?_
     refine AL_ev (Ev_fa_ptr rfl fa145_1 rfl rfl) rfl ?_
     refine AL_store rfl (nf rfl) rfl rfl rfl rfl rfl rfl (by rfl) ts3 rfl rfl ?_
     refine AL_nil ?_
     refine hK4 _ _ _ ?_
     refine AC_seq fun K5 hK5 => ?_
     refine AC_draw hT follows [0, 1, 2, 3, 4, 5, 6, 7, 8, 9, 10, 11, 12, 13] (by kernel_rfl) ?_
     refine DT_ev rfl (EA_move) rfl ?_
     refine DT_ev rfl (EA_nilc_ptr rfl) rfl ?_
     refine DT_ev rfl (EA_fa_ptr rfl fa145_0 rfl rfl) rfl ?_
     refine DT_ev rfl (EA_load_ptr rfl rfl rfl rfl rfl rfl ts119 ta119 rfl (fun _ => rfl)) rfl ?_
     refine DT_ev rfl (EA_move) rfl ?_
     refine DT_ev rfl (EA_nilc_ptr rfl) rfl ?_
     refine DT_ev rfl (EA_fa_ptr rfl fa145_1 rfl rfl) rfl ?_
     refine DT_ev rfl (EA_load_ptr rfl rfl rfl rfl rfl rfl ts3 ta3 rfl (fun _ => rfl)) rfl ?_
     refine DT_ev rfl (EA_sub rfl rfl _ (wrap_id (by omega) (by omega))) rfl ?_
     refine DT_ev rfl (EA_ix_sl rfl rfl te119 ts139 (by omega) (by assumption)) rfl ?_
     refine DT_ev rfl (EA_fa_rp rfl fa139_1 rfl rfl) rfl ?_
     refine DT_ev rfl (EA_load_rp rfl rfl rfl ts9 ta9 rfl (fun _ => rfl)) rfl ?_
     refine DT_fcall0 rfl rfl cl58 (c_atom03 g0.x) rfl rfl ?_
     refine DT_store rfl rfl (nf rfl) rfl rfl rfl rfl rfl rfl (by rfl) ts41 rfl rfl ?_
     refine DTi.nil ?_
     refine hK5 _ _ _ ?_
     refine AC_ret ?_
     exact retr_ok (({ s with i := s.i + 2 }, atom0 g0.x)) (by simp only [roundM]; rw [if_pos hcl]; simp only [sgAt, hg0]) [0, 1] (CExt.refl _) (.cell rfl rfl rfl rfl rfl rfl ts41 ta41 (by rfl) (by intro h; cases h) .nil) rfl rfl (BxF_stay rfl rfl rfl rfl rfl (.cons (.agg (.cons .d (.cons .d (.cons .d (.cons .d (.cons (.ref rfl) .nil)))))) .nil) rfl (BxF_cons rfl rfl rfl rfl rfl (VxL_d _) (Nat.le_refl _) BxF_nil)) (Nat.le_of_ble_eq_true rfl) (.cons .d .nil)
    ·have hx3 : ¬ y.x = ⟨#[41]⟩ := of_decide_eq_false hc4
     have hno : ¬ (isM xs s 1 ⟨#[]⟩ = true ∧ closeB xs s = true) := by simp [closeB, hy, hx3]
     refine AC_skip ?_
     refine hK2 _ _ _ ?_
     refine AC_seq fun K6 hK6 => ?_
     refine AC_wk (Wk_to [some 0, some 1, some 2] [(0, .ptr LRD 0 0 []), (2, .ptr LT 2 0 [])] [some (rBox ⟨145, some (o 0)⟩ 1 xs s), some (nBox 9 s), some ⟨41, LT, [.d zT]⟩] rfl rfl (BxTo_some rfl rfl rfl rfl (.cons (.agg (.cons (.rd .d) (.cons (.rd .d) (.cons (.rd .d) (.cons (.rd .d) (.cons (.ref rfl) .nil)))))) .nil) (BxTo_some rfl rfl rfl rfl (VwL_d _) (BxTo_some rfl rfl rfl rfl (.cons (.rd .d) .nil) BxTo_nil))) (SlTo_cons (.ptr rfl) (SlTo_cons (by exact .ptr rfl) SlTo_nil)) ?_)
     refine AC_region ?_
     refine AL_ev (Ev_move) rfl ?_
     refine AL_rcc hT 0 3 rfl cl139 (htm 1200 s hs hb hn) rfl (.cons .d .nil) rfl rfl rfl rfl rfl (fun _ => (.cons .d .nil)) rfl ?_
     rintro ⟨s1, t1⟩ hz1
     have hp1 := hok 1200 s hs hb hn
     rw [← hz1] at hp1
     try simp only at hp1
     have hq1 := hp1.ok
     have hi1 := hq1.hi
     have hle1 := hp1.le
     have hlt1 := hp1.lt
     refine AL_alloc zo41 _ rfl rfl ?_
     refine AL_store rfl (nf rfl) rfl rfl rfl rfl rfl rfl (by simp [Lay.len, Lay.lens]) ts41 rfl rfl ?_
     refine AL_nil ?_
     refine hK6 _ _ _ ?_
     refine AC_seq fun K7 hK7 => ?_
     refine AC_region ?_
     refine AL_ev (Ev_move) rfl ?_
     refine AL_rcc hT 3 6 rfl cl186 (c_wants xs s1 hl ⟨#[41]⟩ hi1) rfl (.cons .d .nil) rfl rfl rfl rfl rfl (fun _ => .nil) rfl ?_
     rintro ⟨s2, t2⟩ hz2
     have hs2 : s2 = wantsM xs s1 ⟨#[41]⟩ := congrArg Prod.fst hz2
     refine AL_nil ?_
     refine hK7 _ _ _ ?_
     refine AC_seq fun K8 hK8 => ?_
     refine AC_region ?_
     refine AL_ev (Ev_load_ptr rfl rfl rfl rfl rfl rfl ts41 ta41 (by simp) (by intro h; cases h)) rfl ?_
     refine AL_store rfl (nf rfl) rfl rfl rfl rfl rfl rfl (by simp [Lay.len, Lay.lens]) ts41 rfl rfl ?_
     refine AL_nil ?_
     refine hK8 _ _ _ ?_
     refine AC_ret ?_
     exact retr_ok ((s2, t1)) (by simp only [roundM]; rw [if_neg hno, ← hz1, hs2]) [6, 7] (CExt.refl _) (.cell rfl rfl rfl rfl rfl rfl ts41 ta41 (by simp) (by intro h; cases h) .nil) rfl rfl (BxF_stay rfl rfl rfl rfl rfl (.cons (.agg (.cons .d (.cons .d (.cons .d (.cons .d (.cons (.ref rfl) .nil)))))) .nil) rfl (BxF_cons rfl rfl rfl rfl rfl (VxL_d _) (Nat.le_refl _) BxF_nil)) (Nat.le_of_ble_eq_true rfl) (.cons .d .nil)
   ·have hk3 : ¬ y.k = 4 := of_decide_eq_false hg3
    have hno : ¬ (isM xs s 1 ⟨#[]⟩ = true ∧ closeB xs s = true) := by simp [closeB, hy, hk3]
    refine DT_f rfl rfl rfl rfl rfl ?_
    refine DT_f rfl rfl rfl rfl rfl ?_
    refine DT_f rfl rfl rfl rfl rfl ?_
    refine DT_f rfl rfl rfl rfl rfl ?_
    refine DT_f rfl rfl rfl rfl rfl ?_
    refine DT_f rfl rfl rfl rfl rfl ?_
    refine DT_f rfl rfl rfl rfl rfl ?_
    refine DT_f rfl rfl rfl rfl rfl ?_
    refine DT_f rfl rfl rfl rfl rfl ?_
    refine DT_f rfl rfl rfl rfl rfl ?_
    refine DT_f rfl rfl rfl rfl rfl ?_
    refine DT_f rfl rfl rfl rfl rfl ?_
    refine DT_f rfl rfl rfl rfl rfl ?_
    refine DT_ev rfl (EA_pick rfl) rfl ?_
    refine DTi.nil ?_
    refine hK3 _ _ _ ?_
    refine AC_cond_f rfl ?_
    refine AC_skip ?_
    refine hK2 _ _ _ ?_
    refine AC_seq fun K9 hK9 => ?_
    refine AC_wk (Wk_to [some 0, some 1, some 2] [(0, .ptr LRD 0 0 []), (2, .ptr LT 2 0 [])] [some (rBox ⟨145, some (o 0)⟩ 1 xs s), some (nBox 9 s), some ⟨41, LT, [.d zT]⟩] rfl rfl (BxTo_some rfl rfl rfl rfl (.cons (.agg (.cons (.rd .d) (.cons (.rd .d) (.cons (.rd .d) (.cons (.rd .d) (.cons (.ref rfl) .nil)))))) .nil) (BxTo_some rfl rfl rfl rfl (VwL_d _) (BxTo_some rfl rfl rfl rfl (.cons (.rd .d) .nil) BxTo_nil))) (SlTo_cons (.ptr rfl) (SlTo_cons (by exact .ptr rfl) SlTo_nil)) ?_)
    refine AC_region ?_
    refine AL_ev (Ev_move) rfl ?_
    refine AL_rcc hT 0 3 rfl cl139 (htm 1200 s hs hb hn) rfl (.cons .d .nil) rfl rfl rfl rfl rfl (fun _ => (.cons .d .nil)) rfl ?_
    rintro ⟨s3, t3⟩ hz3
    have hp3 := hok 1200 s hs hb hn
    rw [← hz3] at hp3
    try simp only at hp3
    have hq3 := hp3.ok
    have hi3 := hq3.hi
    have hle3 := hp3.le
    have hlt3 := hp3.lt
    refine AL_alloc zo41 _ rfl rfl ?_
    refine AL_store rfl (nf rfl) rfl rfl rfl rfl rfl rfl (by simp [Lay.len, Lay.lens]) ts41 rfl rfl ?_
    refine AL_nil ?_
    refine hK9 _ _ _ ?_
    refine AC_seq fun K10 hK10 => ?_
    refine AC_region ?_
    refine AL_ev (Ev_move) rfl ?_
    refine AL_rcc hT 3 6 rfl cl186 (c_wants xs s3 hl ⟨#[41]⟩ hi3) rfl (.cons .d .nil) rfl rfl rfl rfl rfl (fun _ => .nil) rfl ?_
    rintro ⟨s4, t4⟩ hz4
    have hs4 : s4 = wantsM xs s3 ⟨#[41]⟩ := congrArg Prod.fst hz4
    refine AL_nil ?_
    refine hK10 _ _ _ ?_
    refine AC_seq fun K11 hK11 => ?_
    refine AC_region ?_
    refine AL_ev (Ev_load_ptr rfl rfl rfl rfl rfl rfl ts41 ta41 (by simp) (by intro h; cases h)) rfl ?_
    refine AL_store rfl (nf rfl) rfl rfl rfl rfl rfl rfl (by simp [Lay.len, Lay.lens]) ts41 rfl rfl ?_
    refine AL_nil ?_
    refine hK11 _ _ _ ?_
    refine AC_ret ?_
    exact retr_ok ((s4, t3)) (by simp only [roundM]; rw [if_neg hno, ← hz3, hs4]) [6, 7] (CExt.refl _) (.cell rfl rfl rfl rfl rfl rfl ts41 ta41 (by simp) (by intro h; cases h) .nil) rfl rfl (BxF_stay rfl rfl rfl rfl rfl (.cons (.agg (.cons .d (.cons .d (.cons .d (.cons .d (.cons (.ref rfl) .nil)))))) .nil) rfl (BxF_cons rfl rfl rfl rfl rfl (VxL_d _) (Nat.le_refl _) BxF_nil)) (Nat.le_of_ble_eq_true rfl) (.cons .d .nil)
  ·simp only [injGs_length] at hg2
   have hlt : ¬ s.i + 1 < xs.length := by have := of_decide_eq_false hg2; omega
   have hny : xs[s.i + 1]? = none := List.getElem?_eq_none (by omega)
   have hno : ¬ (isM xs s 1 ⟨#[]⟩ = true ∧ closeB xs s = true) := by simp [closeB, hny]
   refine DT_f rfl rfl rfl rfl rfl ?_
   refine DT_f rfl rfl rfl rfl rfl ?_
   refine DT_f rfl rfl rfl rfl rfl ?_
   refine DT_f rfl rfl rfl rfl rfl ?_
   refine DT_f rfl rfl rfl rfl rfl ?_
   refine DT_f rfl rfl rfl rfl rfl ?_
   refine DT_f rfl rfl rfl rfl rfl ?_
   refine DT_f rfl rfl rfl rfl rfl ?_
   refine DT_f rfl rfl rfl rfl rfl ?_
   refine DT_f rfl rfl rfl rfl rfl ?_
   refine DT_f rfl rfl rfl rfl rfl ?_
   refine DT_f rfl rfl rfl rfl rfl ?_
   refine DT_f rfl rfl rfl rfl rfl ?_
   refine DT_ev rfl (EA_pick rfl) rfl ?_
   refine DT_ev rfl (EA_move) rfl ?_
   refine DT_f rfl rfl rfl rfl rfl ?_
   refine DT_f rfl rfl rfl rfl rfl ?_
   refine DT_f rfl rfl rfl rfl rfl ?_
   refine DT_f rfl rfl rfl rfl rfl ?_
   refine DT_f rfl rfl rfl rfl rfl ?_
   refine DT_f rfl rfl rfl rfl rfl ?_
   refine DT_f rfl rfl rfl rfl rfl ?_
   refine DT_f rfl rfl rfl rfl rfl ?_
   refine DT_f rfl rfl rfl rfl rfl ?_
   refine DT_f rfl rfl rfl rfl rfl ?_
   refine DT_f rfl rfl rfl rfl rfl ?_
   refine DT_f rfl rfl rfl rfl rfl ?_
   refine DT_f rfl rfl rfl rfl rfl ?_
   refine DT_ev rfl (EA_pick rfl) rfl ?_
   refine DTi.nil ?_
   refine hK3 _ _ _ ?_
   refine AC_cond_f rfl ?_
   refine AC_skip ?_
   refine hK2 _ _ _ ?_
   refine AC_seq fun K12 hK12 => ?_
   refine AC_wk (Wk_to [some 0, some 1, some 2] [(0, .ptr LRD 0 0 []), (2, .ptr LT 2 0 [])] [some (rBox ⟨145, some (o 0)⟩ 1 xs s), some (nBox 9 s), some ⟨41, LT, [.d zT]⟩] rfl rfl (BxTo_some rfl rfl rfl rfl (.cons (.agg (.cons (.rd .d) (.cons (.rd .d) (.cons (.rd .d) (.cons (.rd .d) (.cons (.ref rfl) .nil)))))) .nil) (BxTo_some rfl rfl rfl rfl (VwL_d _) (BxTo_some rfl rfl rfl rfl (.cons (.rd .d) .nil) BxTo_nil))) (SlTo_cons (.ptr rfl) (SlTo_cons (by exact .ptr rfl) SlTo_nil)) ?_)
   refine AC_region ?_
   refine AL_ev (Ev_move) rfl ?_
   refine AL_rcc hT 0 3 rfl cl139 (htm 1200 s hs hb hn) rfl (.cons .d .nil) rfl rfl rfl rfl rfl (fun _ => (.cons .d .nil)) rfl ?_
   rintro ⟨s5, t5⟩ hz5
   have hp5 := hok 1200 s hs hb hn
   rw [← hz5] at hp5
   try simp only at hp5
   have hq5 := hp5.ok
   have hi5 := hq5.hi
   have hle5 := hp5.le
   have hlt5 := hp5.lt
   refine AL_alloc zo41 _ rfl rfl ?_
   refine AL_store rfl (nf rfl) rfl rfl rfl rfl rfl rfl (by simp [Lay.len, Lay.lens]) ts41 rfl rfl ?_
   refine AL_nil ?_
   refine hK12 _ _ _ ?_
   refine AC_seq fun K13 hK13 => ?_
   refine AC_region ?_
   refine AL_ev (Ev_move) rfl ?_
   refine AL_rcc hT 3 6 rfl cl186 (c_wants xs s5 hl ⟨#[41]⟩ hi5) rfl (.cons .d .nil) rfl rfl rfl rfl rfl (fun _ => .nil) rfl ?_
   rintro ⟨s6, t6⟩ hz6
   have hs6 : s6 = wantsM xs s5 ⟨#[41]⟩ := congrArg Prod.fst hz6
   refine AL_nil ?_
   refine hK13 _ _ _ ?_
   refine AC_seq fun K14 hK14 => ?_
   refine AC_region ?_
   refine AL_ev (Ev_load_ptr rfl rfl rfl rfl rfl rfl ts41 ta41 (by simp) (by intro h; cases h)) rfl ?_
   refine AL_store rfl (nf rfl) rfl rfl rfl rfl rfl rfl (by simp [Lay.len, Lay.lens]) ts41 rfl rfl ?_
   refine AL_nil ?_
   refine hK14 _ _ _ ?_
   refine AC_ret ?_
   exact retr_ok ((s6, t5)) (by simp only [roundM]; rw [if_neg hno, ← hz5, hs6]) [6, 7] (CExt.refl _) (.cell rfl rfl rfl rfl rfl rfl ts41 ta41 (by simp) (by intro h; cases h) .nil) rfl rfl (BxF_stay rfl rfl rfl rfl rfl (.cons (.agg (.cons .d (.cons .d (.cons .d (.cons .d (.cons (.ref rfl) .nil)))))) .nil) rfl (BxF_cons rfl rfl rfl rfl rfl (VxL_d _) (Nat.le_refl _) BxF_nil)) (Nat.le_of_ble_eq_true rfl) (.cons .d .nil)
 ·have hno : ¬ (isM xs s 1 ⟨#[]⟩ = true ∧ closeB xs s = true) := by rw [hg1]; simp
  refine DT_f rfl rfl rfl rfl rfl ?_
  refine DT_f rfl rfl rfl rfl rfl ?_
  refine DT_f rfl rfl rfl rfl rfl ?_
  refine DT_f rfl rfl rfl rfl rfl ?_
  refine DT_f rfl rfl rfl rfl rfl ?_
  refine DT_f rfl rfl rfl rfl rfl ?_
  refine DT_f rfl rfl rfl rfl rfl ?_
  refine DT_f rfl rfl rfl rfl rfl ?_
  refine DT_f rfl rfl rfl rfl rfl ?_
  refine DT_f rfl rfl rfl rfl rfl ?_
  refine DT_f rfl rfl rfl rfl rfl ?_
  refine DT_ev rfl (EA_pick rfl) rfl ?_
  refine DT_ev rfl (EA_move) rfl ?_
  refine DT_f rfl rfl rfl rfl rfl ?_
  refine DT_f rfl rfl rfl rfl rfl ?_
  refine DT_f rfl rfl rfl rfl rfl ?_
  refine DT_f rfl rfl rfl rfl rfl ?_
  refine DT_f rfl rfl rfl rfl rfl ?_
  refine DT_f rfl rfl rfl rfl rfl ?_
  refine DT_f rfl rfl rfl rfl rfl ?_
  refine DT_f rfl rfl rfl rfl rfl ?_
  refine DT_f rfl rfl rfl rfl rfl ?_
  refine DT_f rfl rfl rfl rfl rfl ?_
  refine DT_f rfl rfl rfl rfl rfl ?_
  refine DT_f rfl rfl rfl rfl rfl ?_
  refine DT_f rfl rfl rfl rfl rfl ?_
  refine DT_ev rfl (EA_pick rfl) rfl ?_
  refine DT_ev rfl (EA_move) rfl ?_
  refine DT_f rfl rfl rfl rfl rfl ?_
  refine DT_f rfl rfl rfl rfl rfl ?_
  refine DT_f rfl rfl rfl rfl rfl ?_
  refine DT_f rfl rfl rfl rfl rfl ?_
  refine DT_f rfl rfl rfl rfl rfl ?_
  refine DT_f rfl rfl rfl rfl rfl ?_
  refine DT_f rfl rfl rfl rfl rfl ?_
  refine DT_f rfl rfl rfl rfl rfl ?_
  refine DT_f rfl rfl rfl rfl rfl ?_
  refine DT_f rfl rfl rfl rfl rfl ?_
  refine DT_f rfl rfl rfl rfl rfl ?_
  refine DT_f rfl rfl rfl rfl rfl ?_
  refine DT_f rfl rfl rfl rfl rfl ?_
  refine DT_ev rfl (EA_pick rfl) rfl ?_
  refine DTi.nil ?_
  refine hK3 _ _ _ ?_
  refine AC_cond_f rfl ?_
  refine AC_skip ?_
  refine hK2 _ _ _ ?_
  refine AC_seq fun K15 hK15 => ?_
  refine AC_wk (Wk_to [some 0, some 1, some 2] [(0, .ptr LRD 0 0 []), (2, .ptr LT 2 0 [])] [some (rBox ⟨145, some (o 0)⟩ 1 xs s), some (nBox 9 s), some ⟨41, LT, [.d zT]⟩] rfl rfl (BxTo_some rfl rfl rfl rfl (.cons (.agg (.cons (.rd .d) (.cons (.rd .d) (.cons (.rd .d) (.cons (.rd .d) (.cons (.ref rfl) .nil)))))) .nil) (BxTo_some rfl rfl rfl rfl (VwL_d _) (BxTo_some rfl rfl rfl rfl (.cons (.rd .d) .nil) BxTo_nil))) (SlTo_cons (.ptr rfl) (SlTo_cons (by exact .ptr rfl) SlTo_nil)) ?_)
  refine AC_region ?_
  refine AL_ev (Ev_move) rfl ?_
  refine AL_rcc hT 0 3 rfl cl139 (htm 1200 s hs hb hn) rfl (.cons .d .nil) rfl rfl rfl rfl rfl (fun _ => (.cons .d .nil)) rfl ?_
  rintro ⟨s7, t7⟩ hz7
  have hp7 := hok 1200 s hs hb hn
  rw [← hz7] at hp7
  try simp only at hp7
  have hq7 := hp7.ok
  have hi7 := hq7.hi
  have hle7 := hp7.le
  have hlt7 := hp7.lt
  refine AL_alloc zo41 _ rfl rfl ?_
  refine AL_store rfl (nf rfl) rfl rfl rfl rfl rfl rfl (by simp [Lay.len, Lay.lens]) ts41 rfl rfl ?_
  refine AL_nil ?_
  refine hK15 _ _ _ ?_
  refine AC_seq fun K16 hK16 => ?_
  refine AC_region ?_
  refine AL_ev (Ev_move) rfl ?_
  refine AL_rcc hT 3 6 rfl cl186 (c_wants xs s7 hl ⟨#[41]⟩ hi7) rfl (.cons .d .nil) rfl rfl rfl rfl rfl (fun _ => .nil) rfl ?_
  rintro ⟨s8, t8⟩ hz8
  have hs8 : s8 = wantsM xs s7 ⟨#[41]⟩ := congrArg Prod.fst hz8
  refine AL_nil ?_
  refine hK16 _ _ _ ?_
  refine AC_seq fun K17 hK17 => ?_
  refine AC_region ?_
  refine AL_ev (Ev_load_ptr rfl rfl rfl rfl rfl rfl ts41 ta41 (by simp) (by intro h; cases h)) rfl ?_
  refine AL_store rfl (nf rfl) rfl rfl rfl rfl rfl rfl (by simp [Lay.len, Lay.lens]) ts41 rfl rfl ?_
  refine AL_nil ?_
  refine hK17 _ _ _ ?_
  refine AC_ret ?_
  exact retr_ok ((s8, t7)) (by simp only [roundM]; rw [if_neg hno, ← hz7, hs8]) [6, 7] (CExt.refl _) (.cell rfl rfl rfl rfl rfl rfl ts41 ta41 (by simp) (by intro h; cases h) .nil) rfl rfl (BxF_stay rfl rfl rfl rfl rfl (.cons (.agg (.cons .d (.cons .d (.cons .d (.cons .d (.cons (.ref rfl) .nil)))))) .nil) rfl (BxF_cons rfl rfl rfl rfl rfl (VxL_d _) (Nat.le_refl _) BxF_nil)) (Nat.le_of_ble_eq_true rfl) (.cons .d .nil)
end Go.Proofs.YtjgliechbnommaaGreatDoor
set_option linter.unusedVariables false
set_option linter.unusedSimpArgs false
namespace Go.Proofs.YtjgliechbnommaaGreatDoor
open Go.Eng
theorem cl119 : Callable Tryz.prog 119 := Callable_of Tryz.func119 (by kernel_rfl) (by kernel_rfl)
theorem cl177 : Callable Tryz.prog 177 := Callable_of Tryz.func177 (by kernel_rfl) (by kernel_rfl)
theorem cl183 : Callable Tryz.prog 183 := Callable_of Tryz.func183 (by kernel_rfl) (by kernel_rfl)
theorem cl184 : Callable Tryz.prog 184 := Callable_of Tryz.func184 (by kernel_rfl) (by kernel_rfl)
theorem cl185 : Callable Tryz.prog 185 := Callable_of Tryz.func185 (by kernel_rfl) (by kernel_rfl)
theorem fa139_2 : tyField Tryz.prog 139 2 = some (2, true) := by kernel_rfl
theorem fa139_4 : tyField Tryz.prog 139 4 = some (4, true) := by kernel_rfl
theorem fa161_1 : tyField Tryz.prog 161 1 = some (1, true) := by kernel_rfl
theorem fa161_3 : tyField Tryz.prog 161 3 = some (3, true) := by kernel_rfl
set_option maxHeartbeats 4000000 in
set_option maxRecDepth 4000 in
theorem c_infixR (xs : List Sg) (s : Rs) (hl : xs.length ≤ 1048576) (hi : s.i ≤ xs.length + 1) : RcC Tryz.prog 162 145 9 xs s [] ((s, nextM xs s)) (fun t => [.d (injO t.1), bl t.2]) := by
 refine HCallX_of (n := 40) Tryz.func162 rfl rfl (Nat.le_of_ble_eq_true rfl) (Nat.le_of_ble_eq_true rfl) fun C0 o hT => ?_
 refine AC_seq fun K1 hK1 => ?_
 refine AC_region ?_
 refine AL_alloc zo161 _ rfl rfl ?_
 refine AL_ev (Ev_assign) rfl ?_
 refine AL_nil ?_
 refine hK1 _ _ _ ?_
 refine AC_seq fun K2 hK2 => ?_
 refine AC_seq fun K3 hK3 => ?_
 refine AC_region ?_
 refine AL_ev (Ev_move) rfl ?_
 refine AL_qcall hT rfl cl140 (c_is xs (s) 4 (⟨#[44]⟩) (by omega)) (.cons (.rd (.ptr trivial rfl rfl rfl (.agg (.cons .d (.cons .d (.cons .d (.cons .d (.cons (.ref trivial rfl rfl (by simp) (ReadsL_d _)) .nil)))))))) (.cons (.rd .d) (.cons (.rd .d) .nil))) rfl ?_
 refine AL_nil ?_
 refine hK3 _ _ _ ?_
 refine AC_cond rfl (fun hc1 => ?_) (fun hc1 => ?_)
 ·refine AC_seq fun K4 hK4 => ?_
  refine AC_region ?_
  refine AL_fcall0 hT rfl cl177 (c_infixOf ⟨#[44]⟩) rfl rfl ?_
  refine AL_ev (Ev_extract rfl rfl) rfl ?_
  refine AL_ev (Ev_extract rfl rfl) rfl ?_
  refine AL_store rfl (nf rfl) rfl rfl rfl rfl rfl rfl (by rfl) ts161 rfl rfl ?_
  refine AL_ev (Ev_assign) rfl ?_
  refine AL_nil ?_
  refine hK4 _ _ _ ?_
  refine AC_ret ?_
  exact retr_ok ((s, betw ⟨#[44]⟩)) (by simp only [nextM]; rw [if_pos hc1]) [0, 1] (CExt.refl _) (.cell rfl rfl rfl rfl rfl rfl ts161 ta161 (by rfl) (by intro h; cases h) (.tmp rfl rfl .nil)) rfl rfl (BxF_stay rfl rfl rfl rfl rfl (.cons (.agg (.cons .d (.cons .d (.cons .d (.cons .d (.cons (.ref rfl) .nil)))))) .nil) rfl (BxF_cons rfl rfl rfl rfl rfl (VxL_d _) (Nat.le_refl _) BxF_nil)) (Nat.le_of_ble_eq_true rfl) (.cons .d (.cons .d .nil))
 ·have hn1 : ¬ isM xs s 4 ⟨#[44]⟩ = true := by rw [hc1]; decide
  refine AC_skip ?_
  refine hK2 _ _ _ ?_
  refine AC_seq fun K5 hK5 => ?_
  refine AC_seq fun K6 hK6 => ?_
  refine AC_draw hT follows [0, 1, 2, 3, 4, 5, 6, 7, 8, 9, 10, 11, 12, 13, 14, 15] (by kernel_rfl) ?_
  refine DT_ev rfl (EA_move) rfl ?_
  refine DT_qcallL rfl rfl cl140 (c_is xs (s) 1 (⟨#[]⟩) (by omega)) (fun C2 => (.cons (.rd (.ptr trivial rfl rfl rfl (.agg (.cons .d (.cons .d (.cons .d (.cons .d (.cons (.ref trivial rfl rfl (by simp) (ReadsL_d _)) .nil)))))))) (.cons (.rd .d) (.cons (.rd .d) .nil)))) rfl ?_
  refine DT_ev rfl (EA_move) rfl ?_
  refine DT_bool 11 rfl (fun hg2 => ?_) (fun hg2 => ?_)
  ·have hm := isM_lt hg2
   refine Exists.elim (show ∃ v, xs[s.i]? = some v from ⟨_, List.getElem?_eq_getElem hm.2.1⟩) fun g hg => ?_
   have hgx := injGs_get hg
   have hsg : sgAt xs s.i = g := by simp only [sgAt, hg]
   refine DT_evt rfl rfl rfl rfl (EA_move) rfl ?_
   refine DT_evt rfl rfl rfl rfl (EA_nilc_ptr rfl) rfl ?_
   refine DT_evt rfl rfl rfl rfl (EA_fa_ptr rfl fa145_0 rfl rfl) rfl ?_
   refine DT_evt rfl rfl rfl rfl (EA_load_ptr rfl rfl rfl rfl rfl rfl ts119 ta119 rfl (fun _ => rfl)) rfl ?_
   refine DT_evt rfl rfl rfl rfl (EA_move) rfl ?_
   refine DT_evt rfl rfl rfl rfl (EA_nilc_ptr rfl) rfl ?_
   refine DT_evt rfl rfl rfl rfl (EA_fa_ptr rfl fa145_1 rfl rfl) rfl ?_
   refine DT_evt rfl rfl rfl rfl (EA_load_ptr rfl rfl rfl rfl rfl rfl ts3 ta3 rfl (fun _ => rfl)) rfl ?_
   refine DT_evt rfl rfl rfl rfl (EA_ix_sl rfl rfl te119 ts139 (by omega) (by assumption)) rfl ?_
   refine DT_evt rfl rfl rfl rfl (EA_fa_rp rfl fa139_4 rfl rfl) rfl ?_
   refine DT_evt rfl rfl rfl rfl (EA_load_rp rfl rfl rfl ts4 ta4 rfl (fun _ => rfl)) rfl ?_
   refine DT_evt rfl rfl rfl rfl (EA_not rfl) rfl ?_
   refine DT_ev rfl (EA_pick rfl) rfl ?_
   refine DTi.nil ?_
   refine hK6 _ _ _ ?_
   refine AC_cond rfl (fun hc3 => ?_) (fun hc3 => ?_)
   ·have hgn : isM xs s 1 ⟨#[]⟩ = true ∧ (sgAt xs s.i).n = false := ⟨hg2, by rw [hsg]; simpa using hc3⟩
    refine AC_seq fun K7 hK7 => ?_
    refine AC_draw hT follows [0, 1, 2, 3, 4, 5, 6, 7, 8, 9, 10, 11, 12, 13, 14, 15] (by kernel_rfl) ?_
    refine DT_ev rfl (EA_move) rfl ?_
    refine DT_ev rfl (EA_nilc_ptr rfl) rfl ?_
    refine DT_ev rfl (EA_fa_ptr rfl fa145_0 rfl rfl) rfl ?_
    refine DT_ev rfl (EA_load_ptr rfl rfl rfl rfl rfl rfl ts119 ta119 rfl (fun _ => rfl)) rfl ?_
    refine DT_ev rfl (EA_move) rfl ?_
    refine DT_ev rfl (EA_nilc_ptr rfl) rfl ?_
    refine DT_ev rfl (EA_fa_ptr rfl fa145_1 rfl rfl) rfl ?_
    refine DT_ev rfl (EA_load_ptr rfl rfl rfl rfl rfl rfl ts3 ta3 rfl (fun _ => rfl)) rfl ?_
    refine DT_ev rfl (EA_ix_sl rfl rfl te119 ts139 (by omega) (by assumption)) rfl ?_
    refine DT_ev rfl (EA_fa_rp rfl fa139_1 rfl rfl) rfl ?_
    refine DT_ev rfl (EA_load_rp rfl rfl rfl ts9 ta9 rfl (fun _ => rfl)) rfl ?_
    refine DT_fcall0 rfl rfl cl177 (c_infixOf g.x) rfl rfl ?_
    refine DT_ev rfl (EA_extract rfl rfl) rfl ?_
    refine DT_ev rfl (EA_extract rfl rfl) rfl ?_
    refine DT_store rfl rfl (nf rfl) rfl rfl rfl rfl rfl rfl (by rfl) ts161 rfl rfl ?_
    refine DT_ev rfl (EA_assign) rfl ?_
    refine DTi.nil ?_
    refine hK7 _ _ _ ?_
    refine AC_ret ?_
    exact retr_ok ((s, betw g.x)) (by simp only [nextM]; rw [if_neg hn1, if_pos hgn, hsg]) [0, 1] (CExt.refl _) (.cell rfl rfl rfl rfl rfl rfl ts161 ta161 (by rfl) (by intro h; cases h) (.tmp rfl rfl .nil)) rfl rfl (BxF_stay rfl rfl rfl rfl rfl (.cons (.agg (.cons .d (.cons .d (.cons .d (.cons .d (.cons (.ref rfl) .nil)))))) .nil) rfl (BxF_cons rfl rfl rfl rfl rfl (VxL_d _) (Nat.le_refl _) BxF_nil)) (Nat.le_of_ble_eq_true rfl) (.cons .d (.cons .d .nil))
   ·have hno : ¬ (isM xs s 1 ⟨#[]⟩ = true ∧ (sgAt xs s.i).n = false) := by rw [hsg]; intro h; rw [h.2] at hc3; cases hc3
    refine AC_skip ?_
    refine hK5 _ _ _ ?_
    refine AC_seq fun K8 hK8 => ?_
    refine AC_region ?_
    refine AL_ev (Ev_buildD (fs := [.one, .one, .one, .one]) (zs := [.c (.string ⟨#[]⟩), .c (.int .i64 0), .c (.int .i64 0), .c (.int .i64 0)]) tz161 rfl tpl161 .nil rfl) rfl ?_
    refine AL_store rfl (nf rfl) rfl rfl rfl rfl rfl rfl (by rfl) ts161 rfl rfl ?_
    refine AL_ev (Ev_assign) rfl ?_
    refine AL_nil ?_
    refine hK8 _ _ _ ?_
    refine AC_ret ?_
    exact retr_ok ((s, op0, false)) (by simp only [nextM]; rw [if_neg hn1, if_neg hno]) [0, 1] (CExt.refl _) (.cell rfl rfl rfl rfl rfl rfl ts161 ta161 (by rfl) (by intro h; cases h) (.tmp rfl rfl .nil)) rfl rfl (BxF_stay rfl rfl rfl rfl rfl (.cons (.agg (.cons .d (.cons .d (.cons .d (.cons .d (.cons (.ref rfl) .nil)))))) .nil) rfl (BxF_cons rfl rfl rfl rfl rfl (VxL_d _) (Nat.le_refl _) BxF_nil)) (Nat.le_of_ble_eq_true rfl) (.cons .d (.cons .d .nil))
  ·have hno : ¬ (isM xs s 1 ⟨#[]⟩ = true ∧ (sgAt xs s.i).n = false) := by rw [hg2]; simp
   refine DT_f rfl rfl rfl rfl rfl ?_
   refine DT_f rfl rfl rfl rfl rfl ?_
   refine DT_f rfl rfl rfl rfl rfl ?_
   refine DT_f rfl rfl rfl rfl rfl ?_
   refine DT_f rfl rfl rfl rfl rfl ?_
   refine DT_f rfl rfl rfl rfl rfl ?_
   refine DT_f rfl rfl rfl rfl rfl ?_
   refine DT_f rfl rfl rfl rfl rfl ?_
   refine DT_f rfl rfl rfl rfl rfl ?_
   refine DT_f rfl rfl rfl rfl rfl ?_
   refine DT_f rfl rfl rfl rfl rfl ?_
   refine DT_f rfl rfl rfl rfl rfl ?_
   refine DT_ev rfl (EA_pick rfl) rfl ?_
   refine DTi.nil ?_
   refine hK6 _ _ _ ?_
   refine AC_cond_f rfl ?_
   refine AC_skip ?_
   refine hK5 _ _ _ ?_
   refine AC_seq fun K9 hK9 => ?_
   refine AC_region ?_
   refine AL_ev (Ev_buildD (fs := [.one, .one, .one, .one]) (zs := [.c (.string ⟨#[]⟩), .c (.int .i64 0), .c (.int .i64 0), .c (.int .i64 0)]) tz161 rfl tpl161 .nil rfl) rfl ?_
   refine AL_store rfl (nf rfl) rfl rfl rfl rfl rfl rfl (by rfl) ts161 rfl rfl ?_
   refine AL_ev (Ev_assign) rfl ?_
   refine AL_nil ?_
   refine hK9 _ _ _ ?_
   refine AC_ret ?_
   exact retr_ok ((s, op0, false)) (by simp only [nextM]; rw [if_neg hn1, if_neg hno]) [0, 1] (CExt.refl _) (.cell rfl rfl rfl rfl rfl rfl ts161 ta161 (by rfl) (by intro h; cases h) (.tmp rfl rfl .nil)) rfl rfl (BxF_stay rfl rfl rfl rfl rfl (.cons (.agg (.cons .d (.cons .d (.cons .d (.cons .d (.cons (.ref rfl) .nil)))))) .nil) rfl (BxF_cons rfl rfl rfl rfl rfl (VxL_d _) (Nat.le_refl _) BxF_nil)) (Nat.le_of_ble_eq_true rfl) (.cons .d (.cons .d .nil))
set_option maxHeartbeats 8000000 in
set_option maxRecDepth 4000 in
theorem c_atomR (xs : List Sg) (s : Rs) (hl : xs.length ≤ 1048576) (hgs : GoodS xs) (d : Int) (n : Nat) (tm : Int → Rs → Rs × T) (htm : TmC Tryz.prog 139 145 9 xs d n tm) (hok : TmOk xs d n tm) (most : Int) (hs : Okr xs d s) (hm : isM xs s 1 ⟨#[]⟩ = true) (hn : xs.length + 2 ≤ n + 1 + s.i) : RcC Tryz.prog 172 145 9 xs s [i64 most] (atomM xs tm most s) (fun t => [.d (inj t.1), i64 t.2]) := by
 obtain ⟨hb, hlt, g, hg, hgk⟩ := isM_lt hm
 have hgx := injGs_get hg
 have hsg : sgAt xs s.i = g := by simp only [sgAt, hg]
 refine HCallX_of (n := 122) Tryz.func172 rfl rfl (Nat.le_of_ble_eq_true rfl) (Nat.le_of_ble_eq_true rfl) fun C0 o hT => ?_
 refine AC_seq fun K1 hK1 => ?_
 refine AC_region ?_
 refine AL_alloc zo41 _ rfl rfl ?_
 refine AL_ev (Ev_assign) rfl ?_
 refine AL_nil ?_
 refine hK1 _ _ _ ?_
 refine AC_seq fun K2 hK2 => ?_
 refine AC_draw hT follows [0, 1, 2, 3, 4, 5, 6, 7, 8, 9, 10, 11] (by kernel_rfl) ?_
 refine DT_ev rfl (EA_move) rfl ?_
 refine DT_ev rfl (EA_nilc_ptr rfl) rfl ?_
 refine DT_ev rfl (EA_fa_ptr rfl fa145_0 rfl rfl) rfl ?_
 refine DT_ev rfl (EA_load_ptr rfl rfl rfl rfl rfl rfl ts119 ta119 rfl (fun _ => rfl)) rfl ?_
 refine DT_ev rfl (EA_move) rfl ?_
 refine DT_ev rfl (EA_nilc_ptr rfl) rfl ?_
 refine DT_ev rfl (EA_fa_ptr rfl fa145_1 rfl rfl) rfl ?_
 refine DT_ev rfl (EA_load_ptr rfl rfl rfl rfl rfl rfl ts3 ta3 rfl (fun _ => rfl)) rfl ?_
 refine DT_ev rfl (EA_ix_sl rfl rfl te119 ts139 (by omega) (by assumption)) rfl ?_
 refine DT_ev rfl (EA_load_rp rfl rfl rfl ts139 ta139 (by rfl) (by intro h; cases h)) rfl ?_
 refine DT_allocS rfl tz139 rfl rfl (by kernel_rfl) fun Ca1 ba1 hxa1 hba1 hla1 => ?_
 have hTa1 := hT
 have hT := hT.ext hxa1
 refine DTi.t [0, 1, 2, 3, 4, 5, 6, 7, 8, 9, 10, 11] (os := [_]) (by kernel_rfl) rfl ?_
 refine AL_boxraw (s := 6) (l := (Lay.st [.one, .one, .one, .one, .one])) (z := .agg [.one, .one, .one, .one, .one] [.c (.int .i64 0), .c (.string ⟨#[]⟩), .c (.int .i64 0), .c (.int .i64 0), .c (.bool false)]) hxa1 rfl hba1 hla1 rfl (fun _ _ _ => VC_cells rfl) _ rfl ?_
 have hT := hTa1
 refine AL_store rfl (nf rfl) rfl rfl rfl rfl rfl rfl (by rfl) ts139 rfl rfl ?_
 refine AL_nil ?_
 refine hK2 _ _ _ ?_
 refine AC_seq fun K3 hK3 => ?_
 refine AC_seq fun K4 hK4 => ?_
 refine AC_region ?_
 refine AL_ev (Ev_fa_ptr rfl fa139_4 rfl rfl) rfl ?_
 refine AL_ev (Ev_load_ptr rfl rfl rfl rfl rfl rfl ts4 ta4 rfl (fun _ => rfl)) rfl ?_
 refine AL_nil ?_
 refine hK4 _ _ _ ?_
 refine AC_cond rfl (fun hc1 => ?_) (fun hc1 => ?_)
 ·refine AC_seq fun K5 hK5 => ?_
  refine AC_region ?_
  refine AL_ev (Ev_move) rfl ?_
  refine AL_ev (Ev_move) rfl ?_
  refine AL_ev (Ev_nilc_ptr rfl) rfl ?_
  refine AL_ev (Ev_fa_ptr rfl fa145_1 rfl rfl) rfl ?_
  refine AL_ev (Ev_load_ptr rfl rfl rfl rfl rfl rfl ts3 ta3 rfl (fun _ => rfl)) rfl ?_
  refine AL_ev (Ev_add rfl rfl _ (wrap_id (by omega) (by omega))) rfl ?_
  refine AL_ev (Ev_nilc_ptr rfl) rfl ?_
  refine AL_ev (Ev_fa_ptr rfl fa145_1 rfl rfl) rfl ?_
  refine AL_store rfl (nf rfl) rfl rfl rfl rfl rfl rfl (by rfl) ts3 rfl rfl ?_
  refine AL_nil ?_
  refine hK5 _ _ _ ?_
  refine AC_seq fun K6 hK6 => ?_
  refine AC_region ?_
  refine AL_ev (Ev_move) rfl ?_
  refine AL_ev (Ev_fa_ptr rfl fa139_1 rfl rfl) rfl ?_
  refine AL_ev (Ev_load_ptr rfl rfl rfl rfl rfl rfl ts9 ta9 rfl (fun _ => rfl)) rfl ?_
  refine AL_rcc hT 0 4 rfl cl183 (c_some xs { s with i := s.i + 2 } hl d n tm htm hok g.x (hs.adv 2 (by omega)) (fun _ => by show xs.length + 2 ≤ n + (s.i + 2); omega) _ rfl) rfl (.cons .d .nil) rfl rfl rfl rfl rfl (fun _ => (.cons .d .nil)) rfl ?_
  rintro ⟨s1, t1⟩ hz1
  refine AL_store rfl (nf rfl) rfl rfl rfl rfl rfl rfl (by simp [Lay.len, Lay.lens]) ts41 rfl rfl ?_
  refine AL_ev (Ev_assign) rfl ?_
  refine AL_nil ?_
  refine hK6 _ _ _ ?_
  refine AC_ret ?_
  exact retr_ok ((s1, t1, 0)) (by have e1 : s1 = _ := congrArg Prod.fst hz1; have e2 : t1 = _ := congrArg Prod.snd hz1; simp only [atomM, hsg]; rw [if_pos hc1, e1, e2]) [4, 5] (CExt.refl _) (.cell rfl rfl rfl rfl rfl rfl ts41 ta41 (by simp) (by intro h; cases h) (.tmp rfl rfl .nil)) rfl rfl (BxF_stay rfl rfl rfl rfl rfl (.cons (.agg (.cons .d (.cons .d (.cons .d (.cons .d (.cons (.ref rfl) .nil)))))) .nil) rfl (BxF_cons rfl rfl rfl rfl rfl (VxL_d _) (Nat.le_refl _) BxF_nil)) (Nat.le_of_ble_eq_true rfl) (.cons .d (.cons .d .nil))
 ·have hgn : ¬ g.n = true := by rw [hc1]; decide
  refine AC_skip ?_
  refine hK3 _ _ _ ?_
  refine AC_seqJ (fun f L => (¬ (g.x = ⟨#[45]⟩ ∧ nearM xs s = true)) ∧ f = FS [] (fun _ => V.any) [(0, .ptr LRD 0 0 []), (1, i64 most), (4, .ptr LT 2 0 []), (6, .ptr LSG 3 0 [])] ∧ L = [some (rBox ⟨145, some (o 0)⟩ 1 xs s), some (nBox 9 s), some ⟨41, LT, [.d zT]⟩, some ⟨139, LSG, [.d (injG g)]⟩]) ?_ ?_
  ·refine AC_seq fun K8 hK8 => ?_
   refine AC_region ?_
   refine AL_ev (Ev_fa_ptr rfl fa139_1 rfl rfl) rfl ?_
   refine AL_ev (Ev_load_ptr rfl rfl rfl rfl rfl rfl ts9 ta9 rfl (fun _ => rfl)) rfl ?_
   refine AL_ev (Ev_seql rfl rfl) rfl ?_
   refine AL_ev (Ev_move) rfl ?_
   refine AL_bool 39 rfl (fun hg2 => ?_) (fun hg2 => ?_)
   ·have ht9 : g.x = ⟨#[45]⟩ := of_decide_eq_true hg2
    refine AL_guard_t rfl rfl rfl ?_
    refine AL_ev (Ev_move) rfl ?_
    refine AL_guard_t rfl rfl rfl ?_
    refine AL_qcall hT rfl cl184 (c_near xs s (by omega) hlt (fun g h => (hgs g h).1)) (.cons (.rd (.ptr trivial rfl rfl rfl (.agg (.cons .d (.cons .d (.cons .d (.cons .d (.cons (.ref trivial rfl rfl (by simp) (ReadsL_d _)) .nil)))))))) .nil) rfl ?_
    refine AL_ev (Ev_pick rfl) rfl ?_
    refine AL_nil ?_
    refine hK8 _ _ _ ?_
    refine AC_cond rfl (fun hc3 => ?_) (fun hc3 => ?_)
    ·have hq9 : g.x = ⟨#[45]⟩ ∧ nearM xs s = true := ⟨ht9, hc3⟩
     refine Exists.elim (near_get hc3) fun y hy => ?_
     have hy9 := lt_of_get hy
     have hym := (hgs y (List.mem_of_getElem? hy)).2
     have hy3 : (injGs xs)[((((s.i : Nat) : Int) + 2) - 1).toNat]? = some (injG y) := by rw [show ((((s.i : Nat) : Int) + 2) - 1).toNat = s.i + 1 by omega]; simpa using injGs_get hy
     refine AC_seq fun K9 hK9 => ?_
     refine AC_region ?_
     refine AL_ev (Ev_move) rfl ?_
     refine AL_ev (Ev_move) rfl ?_
     refine AL_ev (Ev_nilc_ptr rfl) rfl ?_
     refine AL_ev (Ev_fa_ptr rfl fa145_1 rfl rfl) rfl ?_
     refine AL_ev (Ev_load_ptr rfl rfl rfl rfl rfl rfl ts3 ta3 rfl (fun _ => rfl)) rfl ?_
     refine AL_ev (Ev_add rfl rfl _ (wrap_id (by omega) (by omega))) rfl ?_
     refine AL_ev (Ev_nilc_ptr rfl) rfl ?_
     refine AL_ev (Ev_fa_ptr rfl fa145_1 rfl rfl) rfl ?_
     refine AL_store rfl (nf rfl) rfl rfl rfl rfl rfl rfl (by rfl) ts3 rfl rfl ?_
     refine AL_nil ?_
     refine hK9 _ _ _ ?_
     refine AC_seq fun K10 hK10 => ?_
     refine AC_draw hT follows [0, 1, 2, 3, 4, 5, 6, 7, 8, 9, 10, 11, 12, 13, 14, 15] (by kernel_rfl) ?_
     refine DT_ev rfl (EA_move) rfl ?_
     refine DT_ev rfl (EA_nilc_ptr rfl) rfl ?_
     refine DT_ev rfl (EA_fa_ptr rfl fa145_0 rfl rfl) rfl ?_
     refine DT_ev rfl (EA_load_ptr rfl rfl rfl rfl rfl rfl ts119 ta119 rfl (fun _ => rfl)) rfl ?_
     refine DT_ev rfl (EA_move) rfl ?_
     refine DT_ev rfl (EA_nilc_ptr rfl) rfl ?_
     refine DT_ev rfl (EA_fa_ptr rfl fa145_1 rfl rfl) rfl ?_
     refine DT_ev rfl (EA_load_ptr rfl rfl rfl rfl rfl rfl ts3 ta3 rfl (fun _ => rfl)) rfl ?_
     refine DT_ev rfl (EA_sub rfl rfl _ (wrap_id (by omega) (by omega))) rfl ?_
     refine DT_ev rfl (EA_ix_sl rfl rfl te119 ts139 (by omega) (by assumption)) rfl ?_
     refine DT_ev rfl (EA_fa_rp rfl fa139_2 rfl rfl) rfl ?_
     refine DT_ev rfl (EA_load_rp rfl rfl rfl ts3 ta3 rfl (fun _ => rfl)) rfl ?_
     refine DT_ev rfl (EA_neg rfl _ (wrap_id (by omega) (by omega))) rfl ?_
     refine DT_fcall0 rfl rfl cl119 (c_num03 (-y.m)) rfl rfl ?_
     refine DT_store rfl rfl (nf rfl) rfl rfl rfl rfl rfl rfl (by rfl) ts41 rfl rfl ?_
     refine DT_ev rfl (EA_assign) rfl ?_
     refine DTi.nil ?_
     refine hK10 _ _ _ ?_
     refine AC_ret ?_
     exact retr_ok (({ s with i := s.i + 2 }, .mk 3 ⟨#[]⟩ (-y.m) [], 0)) (by simp only [atomM, hsg]; rw [if_neg hgn, if_pos hq9]; simp only [sgAt, hy]) [0, 1] (CExt.refl _) (.cell rfl rfl rfl rfl rfl rfl ts41 ta41 (by rfl) (by intro h; cases h) (.tmp rfl rfl .nil)) rfl rfl (BxF_stay rfl rfl rfl rfl rfl (.cons (.agg (.cons .d (.cons .d (.cons .d (.cons .d (.cons (.ref rfl) .nil)))))) .nil) rfl (BxF_cons rfl rfl rfl rfl rfl (VxL_d _) (Nat.le_refl _) BxF_nil)) (Nat.le_of_ble_eq_true rfl) (.cons .d (.cons .d .nil))
    ·have hJ : ¬ (g.x = ⟨#[45]⟩ ∧ nearM xs s = true) := by rw [hc3]; simp
     refine AC_skip ?_
     exact fin_wk ((enterS (ks := []) (g := fun _ => V.any) (ms := [(0, .ptr LRD 0 0 []), (1, i64 most), (4, .ptr LT 2 0 []), (6, .ptr LSG 3 0 [])]) (L2 := [some (rBox ⟨145, some (o 0)⟩ 1 xs s), some (nBox 9 s), some ⟨41, LT, [.d zT]⟩, some ⟨139, LSG, [.d (injG g)]⟩]) [some 0, some 1, some 2, some 3] rfl rfl (BxTo_some rfl rfl rfl rfl (.cons (.agg (.cons (.rd .d) (.cons (.rd .d) (.cons (.rd .d) (.cons (.rd .d) (.cons (.ref rfl) .nil)))))) .nil) (BxTo_some rfl rfl rfl rfl (VwL_d _) (BxTo_some rfl rfl rfl rfl (.cons (.rd .d) .nil) (BxTo_some rfl rfl rfl rfl (.cons (.rd .d) .nil) BxTo_nil)))) (SlTo_cons (by exact .ptr rfl) (SlTo_cons (by exact .rd .d) (SlTo_cons (by exact .ptr rfl) (SlTo_cons (by exact .ptr rfl) SlTo_nil))))).mono (by rintro f L ⟨rfl, rfl⟩; exact ⟨hJ, rfl, rfl⟩))
   ·have hJ : ¬ (g.x = ⟨#[45]⟩ ∧ nearM xs s = true) := fun h => of_decide_eq_false hg2 h.1
    refine AL_guard_f rfl rfl rfl rfl ?_
    refine AL_guard_f rfl rfl rfl rfl ?_
    refine AL_ev (Ev_pick rfl) rfl ?_
    refine AL_nil ?_
    refine hK8 _ _ _ ?_
    refine AC_cond_f rfl ?_
    refine AC_skip ?_
    exact fin_wk ((enterS (ks := []) (g := fun _ => V.any) (ms := [(0, .ptr LRD 0 0 []), (1, i64 most), (4, .ptr LT 2 0 []), (6, .ptr LSG 3 0 [])]) (L2 := [some (rBox ⟨145, some (o 0)⟩ 1 xs s), some (nBox 9 s), some ⟨41, LT, [.d zT]⟩, some ⟨139, LSG, [.d (injG g)]⟩]) [some 0, some 1, some 2, some 3] rfl rfl (BxTo_some rfl rfl rfl rfl (.cons (.agg (.cons (.rd .d) (.cons (.rd .d) (.cons (.rd .d) (.cons (.rd .d) (.cons (.ref rfl) .nil)))))) .nil) (BxTo_some rfl rfl rfl rfl (VwL_d _) (BxTo_some rfl rfl rfl rfl (.cons (.rd .d) .nil) (BxTo_some rfl rfl rfl rfl (.cons (.rd .d) .nil) BxTo_nil)))) (SlTo_cons (by exact .ptr rfl) (SlTo_cons (by exact .rd .d) (SlTo_cons (by exact .ptr rfl) (SlTo_cons (by exact .ptr rfl) SlTo_nil))))).mono (by rintro f L ⟨rfl, rfl⟩; exact ⟨hJ, rfl, rfl⟩))
  ·rintro f L ⟨hJ, rfl, rfl⟩
   have hno9 := hJ
   refine AC_seq fun K11 hK11 => ?_
   refine AC_region ?_
   refine AL_ev (Ev_fa_ptr rfl fa139_1 rfl rfl) rfl ?_
   refine AL_ev (Ev_load_ptr rfl rfl rfl rfl rfl rfl ts9 ta9 rfl (fun _ => rfl)) rfl ?_
   refine AL_fcall0 hT rfl cl185 (c_prefixOf g.x) rfl rfl ?_
   refine AL_ev (Ev_move) rfl ?_
   refine AL_ev (Ev_extract rfl rfl) rfl ?_
   refine AL_ev (Ev_extract rfl rfl) rfl ?_
   refine AL_alloc zo161 _ rfl rfl ?_
   refine AL_store rfl (nf rfl) rfl rfl rfl rfl rfl rfl (by rfl) ts161 rfl rfl ?_
   refine AL_ev (Ev_assign) rfl ?_
   refine AL_nil ?_
   refine hK11 _ _ _ ?_
   refine AC_seqJ (fun f L => (¬ ((preO g.x).2 = true ∧ (preO g.x).1.pr ≤ most)) ∧ f = FS [] (fun _ => V.any) [(0, .ptr LRD 0 0 []), (1, i64 most), (4, .ptr LT 2 0 []), (6, .ptr LSG 3 0 []), (8, bl (preO g.x).2)] ∧ L = [some (rBox ⟨145, some (o 0)⟩ 1 xs s), some (nBox 9 s), some ⟨41, LT, [.d zT]⟩, some ⟨139, LSG, [.d (injG g)]⟩]) ?_ ?_
   ·refine AC_seq fun K13 hK13 => ?_
    refine AC_region ?_
    refine AL_ev (Ev_move) rfl ?_
    refine AL_ev (Ev_move) rfl ?_
    refine AL_bool 72 rfl (fun hg4 => ?_) (fun hg4 => ?_)
    ·refine AL_guard_t rfl rfl rfl ?_
     refine AL_ev (Ev_fa_ptr rfl fa161_1 rfl rfl) rfl ?_
     refine AL_guard_t rfl rfl rfl ?_
     refine AL_ev (Ev_load_ptr rfl rfl rfl rfl rfl rfl ts3 ta3 rfl (fun _ => rfl)) rfl ?_
     refine AL_guard_t rfl rfl rfl ?_
     refine AL_ev (Ev_move) rfl ?_
     refine AL_guard_t rfl rfl rfl ?_
     refine AL_ev (Ev_leq rfl rfl) rfl ?_
     refine AL_ev (Ev_pick rfl) rfl ?_
     refine AL_nil ?_
     refine hK13 _ _ _ ?_
     refine AC_cond rfl (fun hc5 => ?_) (fun hc5 => ?_)
     ·have hq3 : (preO g.x).2 = true ∧ (preO g.x).1.pr ≤ most := ⟨hg4, of_decide_eq_true hc5⟩
      refine AC_seq fun K14 hK14 => ?_
      refine AC_region ?_
      refine AL_ev (Ev_move) rfl ?_
      refine AL_ev (Ev_move) rfl ?_
      refine AL_ev (Ev_nilc_ptr rfl) rfl ?_
      refine AL_ev (Ev_fa_ptr rfl fa145_1 rfl rfl) rfl ?_
      refine AL_ev (Ev_load_ptr rfl rfl rfl rfl rfl rfl ts3 ta3 rfl (fun _ => rfl)) rfl ?_
      refine AL_ev (Ev_add rfl rfl _ (wrap_id (by omega) (by omega))) rfl ?_
      refine AL_ev (Ev_nilc_ptr rfl) rfl ?_
      refine AL_ev (Ev_fa_ptr rfl fa145_1 rfl rfl) rfl ?_
      refine AL_store rfl (nf rfl) rfl rfl rfl rfl rfl rfl (by rfl) ts3 rfl rfl ?_
      refine AL_nil ?_
      refine hK14 _ _ _ ?_
      refine AC_seq fun K15 hK15 => ?_
      refine AC_region ?_
      refine AL_ev (Ev_move) rfl ?_
      refine AL_ev (Ev_fa_ptr rfl fa161_3 rfl rfl) rfl ?_
      refine AL_ev (Ev_load_ptr rfl rfl rfl rfl rfl rfl ts3 ta3 rfl (fun _ => rfl)) rfl ?_
      refine AL_rcc hT 0 5 rfl cl139 (htm (preO g.x).1.r { s with i := s.i + 1 } (hs.adv 1 (by omega)) hb (by show xs.length + 2 ≤ n + (s.i + 1); omega)) rfl (.cons .d .nil) rfl rfl rfl rfl rfl (fun _ => (.cons .d .nil)) rfl ?_
      rintro ⟨s2, t2⟩ hz2
      refine AL_alloc zo41 _ rfl rfl ?_
      refine AL_store rfl (nf rfl) rfl rfl rfl rfl rfl rfl (by simp [Lay.len, Lay.lens]) ts41 rfl rfl ?_
      refine AL_nil ?_
      refine hK15 _ _ _ ?_
      refine AC_seq fun K16 hK16 => ?_
      refine AC_wk (Wk_to [some 5, some 6, some 2] [(0, .ptr LRD 0 0 []), (4, .ptr LT 2 0 []), (6, .d (.rp LSG (injG g) [])), (7, .d (.rp (Lay.st [.one, .one, .one, .one]) (injO (preO g.x).1) [])), (9, .d (.rp LT (inj t2) []))] [some (rBox ⟨145, some (o 0)⟩ 1 xs s2), some (nBox 9 s2), some ⟨41, LT, [.d zT]⟩] rfl rfl (BxTo_some rfl rfl rfl rfl (.cons (.agg (.cons (.rd .d) (.cons (.rd .d) (.cons (.rd .d) (.cons (.rd .d) (.cons (.ref rfl) .nil)))))) .nil) (BxTo_some rfl rfl rfl rfl (VwL_d _) (BxTo_some rfl rfl rfl rfl (.cons (.rd .d) .nil) BxTo_nil))) (SlTo_cons (.ptr rfl) (SlTo_cons (by exact .ptr rfl) (SlTo_cons (by exact .rd (.ptr (srcFree rfl) rfl rfl rfl .d)) (SlTo_cons (by exact .rd (.ptr (srcFree rfl) rfl rfl rfl .d)) (SlTo_cons (by exact .rd (.ptr (srcFree rfl) rfl rfl rfl .d)) SlTo_nil))))) ?_)
      refine AC_drawq hT follows [96] [0, 1, 2, 5, 6, 3, 4, 7, 8] (by kernel_rfl) ?_
      refine DT_ev rfl (EA_fa_rp rfl fa139_1 rfl rfl) rfl ?_
      refine DT_ev rfl (EA_load_rp rfl rfl rfl ts9 ta9 rfl (fun _ => rfl)) rfl ?_
      refine DT_ev rfl (EA_load_rp rfl rfl rfl ts41 ta41 (by simp) (by intro h; cases h)) rfl ?_
      refine DT_ev rfl (EA_fa_rp rfl fa161_1 rfl rfl) rfl ?_
      refine DT_loadq rfl rfl rfl rfl ts3 ta3 rfl (fun _ => rfl) rfl ?_
      refine DT_bD (Lay.st [.one, .one, .one, .one]) rfl rfl te39 ts41 tz41 rfl rfl (by decide) (by decide) (by simp [lenDs, goodVs, goodV, V.known, Lay.len, Lay.lens]) rfl ?_
      refine DT_ev rfl (EA_build (fs := [.one, .one, .one, .one]) (zs := [.c (.int .i64 0), .c (.string ⟨#[]⟩), .c (.int .i64 0), .c (.slice none 0 0)]) tz41 rfl tpl41 (.cons rfl rfl (by rfl) (.cons rfl rfl (by rfl) (.cons rfl rfl (by rfl) .nil)))) rfl ?_
      refine DT_store rfl rfl (nf rfl) rfl rfl rfl rfl rfl rfl (by rfl) ts41 rfl rfl ?_
      refine DT_ev rfl (EA_assign) rfl ?_
      refine DTi.nil ?_
      refine hK16 _ _ _ ?_
      refine AC_ret ?_
      refine fin_of_wk (enterS (ks := []) (g := fun _ => V.any) (ms := [(4, .ptr LT 2 0 []), (5, i64 (preO g.x).1.pr)]) (L2 := [some (rBox ⟨145, some (o 0)⟩ 1 xs (s2)), some (nBox 9 (s2)), some ⟨41, LT, [.d (inj (.mk 4 g.x 0 [t2]))]⟩]) [some 0, some 1, some 2] rfl rfl (BxTo_some rfl rfl rfl rfl (.cons (.agg (.cons (.rd .d) (.cons (.rd .d) (.cons (.rd .d) (.cons (.rd .d) (.cons (.ref rfl) .nil)))))) .nil) (BxTo_some rfl rfl rfl rfl (VwL_d _) (BxTo_some rfl rfl rfl rfl (.cons (.rd (.agg (.cons .d (.cons .d (.cons .d (.cons (.d) .nil)))))) .nil) BxTo_nil))) (SlTo_cons (by exact .ptr rfl) (SlTo_cons (by exact .rd .d) SlTo_nil))) ?_
      rintro f L ⟨rfl, rfl⟩
      exact retr_ok ((s2, .mk 4 g.x 0 [t2], (preO g.x).1.pr)) (by simp only [atomM, hsg]; rw [if_neg hgn, if_neg hno9, if_pos hq3, ← hz2]) [0, 1] (CExt.refl _) (.cell rfl rfl rfl rfl rfl rfl ts41 ta41 (by rfl) (by intro h; cases h) (.tmp rfl rfl .nil)) rfl rfl (BxF_stay rfl rfl rfl rfl rfl (.cons (.agg (.cons .d (.cons .d (.cons .d (.cons .d (.cons (.ref rfl) .nil)))))) .nil) rfl (BxF_cons rfl rfl rfl rfl rfl (VxL_d _) (Nat.le_refl _) BxF_nil)) (Nat.le_of_ble_eq_true rfl) (.cons .d (.cons .d .nil))
     ·have hJ : ¬ ((preO g.x).2 = true ∧ (preO g.x).1.pr ≤ most) := fun h => of_decide_eq_false hc5 h.2
      refine AC_skip ?_
      exact fin_wk ((enterS (ks := []) (g := fun _ => V.any) (ms := [(0, .ptr LRD 0 0 []), (1, i64 most), (4, .ptr LT 2 0 []), (6, .ptr LSG 3 0 []), (8, bl (preO g.x).2)]) (L2 := [some (rBox ⟨145, some (o 0)⟩ 1 xs s), some (nBox 9 s), some ⟨41, LT, [.d zT]⟩, some ⟨139, LSG, [.d (injG g)]⟩]) [some 0, some 1, some 2, some 3] rfl rfl (BxTo_some rfl rfl rfl rfl (.cons (.agg (.cons (.rd .d) (.cons (.rd .d) (.cons (.rd .d) (.cons (.rd .d) (.cons (.ref rfl) .nil)))))) .nil) (BxTo_some rfl rfl rfl rfl (VwL_d _) (BxTo_some rfl rfl rfl rfl (.cons (.rd .d) .nil) (BxTo_some rfl rfl rfl rfl (.cons (.rd .d) .nil) BxTo_nil)))) (SlTo_cons (by exact .ptr rfl) (SlTo_cons (by exact .rd .d) (SlTo_cons (by exact .ptr rfl) (SlTo_cons (by exact .ptr rfl) (SlTo_cons (by exact .rd .d) SlTo_nil)))))).mono (by rintro f L ⟨rfl, rfl⟩; exact ⟨hJ, rfl, rfl⟩))
    ·have hJ : ¬ ((preO g.x).2 = true ∧ (preO g.x).1.pr ≤ most) := by rw [hg4]; simp
     refine AL_guard_f rfl rfl rfl rfl ?_
     refine AL_guard_f rfl rfl rfl rfl ?_
     refine AL_guard_f rfl rfl rfl rfl ?_
     refine AL_guard_f rfl rfl rfl rfl ?_
     refine AL_ev (Ev_pick rfl) rfl ?_
     refine AL_nil ?_
     refine hK13 _ _ _ ?_
     refine AC_cond_f rfl ?_
     refine AC_skip ?_
     exact fin_wk ((enterS (ks := []) (g := fun _ => V.any) (ms := [(0, .ptr LRD 0 0 []), (1, i64 most), (4, .ptr LT 2 0 []), (6, .ptr LSG 3 0 []), (8, bl (preO g.x).2)]) (L2 := [some (rBox ⟨145, some (o 0)⟩ 1 xs s), some (nBox 9 s), some ⟨41, LT, [.d zT]⟩, some ⟨139, LSG, [.d (injG g)]⟩]) [some 0, some 1, some 2, some 3] rfl rfl (BxTo_some rfl rfl rfl rfl (.cons (.agg (.cons (.rd .d) (.cons (.rd .d) (.cons (.rd .d) (.cons (.rd .d) (.cons (.ref rfl) .nil)))))) .nil) (BxTo_some rfl rfl rfl rfl (VwL_d _) (BxTo_some rfl rfl rfl rfl (.cons (.rd .d) .nil) (BxTo_some rfl rfl rfl rfl (.cons (.rd .d) .nil) BxTo_nil)))) (SlTo_cons (by exact .ptr rfl) (SlTo_cons (by exact .rd .d) (SlTo_cons (by exact .ptr rfl) (SlTo_cons (by exact .ptr rfl) (SlTo_cons (by exact .rd .d) SlTo_nil)))))).mono (by rintro f L ⟨rfl, rfl⟩; exact ⟨hJ, rfl, rfl⟩))
   ·rintro f L ⟨hJ, rfl, rfl⟩
    have hno3 := hJ
    refine AC_seq fun K17 hK17 => ?_
    refine AC_region ?_
    refine AL_ev (Ev_fa_ptr rfl fa139_1 rfl rfl) rfl ?_
    refine AL_ev (Ev_load_ptr rfl rfl rfl rfl rfl rfl ts9 ta9 rfl (fun _ => rfl)) rfl ?_
    refine AL_fcall0 hT rfl cl177 (c_infixOf g.x) rfl rfl ?_
    refine AL_ev (Ev_move) rfl ?_
    refine AL_ev (Ev_extract rfl rfl) rfl ?_
    refine AL_ev (Ev_extract rfl rfl) rfl ?_
    refine AL_alloc zo161 _ rfl rfl ?_
    refine AL_store rfl (nf rfl) rfl rfl rfl rfl rfl rfl (by rfl) ts161 rfl rfl ?_
    refine AL_ev (Ev_assign) rfl ?_
    refine AL_nil ?_
    refine hK17 _ _ _ ?_
    refine AC_seq fun K18 hK18 => ?_
    refine AC_seq fun K19 hK19 => ?_
    refine AC_region ?_
    refine AL_ev (Ev_move) rfl ?_
    refine AL_ev (Ev_move) rfl ?_
    refine AL_bool 104 rfl (fun hg6 => ?_) (fun hg6 => ?_)
    ·have hq4 : (preO g.x).2 = true ∨ (betw g.x).2 = true := .inl hg6
     refine AL_guard_f rfl rfl rfl rfl ?_
     refine AL_ev (Ev_pick rfl) rfl ?_
     refine AL_nil ?_
     refine hK19 _ _ _ ?_
     refine AC_cond_t rfl ?_
     refine AC_seq fun K20 hK20 => ?_
     refine AC_region ?_
     refine AL_ev (Ev_move) rfl ?_
     refine AL_ev (Ev_nilc_ptr rfl) rfl ?_
     refine AL_ev (Ev_fa_ptr rfl fa145_2 rfl rfl) rfl ?_
     refine AL_store rfl (nf rfl) rfl rfl rfl rfl rfl rfl (by rfl) ts4 rfl rfl ?_
     refine AL_nil ?_
     refine hK20 _ _ _ ?_
     refine AC_seq fun K21 hK21 => ?_
     refine AC_region ?_
     refine AL_ev (Ev_build (fs := [.one, .one, .one, .one]) (zs := [.c (.int .i64 0), .c (.string ⟨#[]⟩), .c (.int .i64 0), .c (.slice none 0 0)]) tz41 rfl tpl41 .nil) rfl ?_
     refine AL_store rfl (nf rfl) rfl rfl rfl rfl rfl rfl (by rfl) ts41 rfl rfl ?_
     refine AL_ev (Ev_assign) rfl ?_
     refine AL_nil ?_
     refine hK21 _ _ _ ?_
     refine AC_ret ?_
     refine fin_of_wk (enterS (ks := []) (g := fun _ => V.any) (ms := [(4, .ptr LT 2 0 []), (5, i64 0)]) (L2 := [some (rBox ⟨145, some (o 0)⟩ 1 xs ({ s with bad := true })), some (nBox 9 ({ s with bad := true })), some ⟨41, LT, [.d (inj (term0))]⟩]) [some 0, some 1, some 2] rfl rfl (BxTo_some rfl rfl rfl rfl (.cons (.agg (.cons (.rd .d) (.cons (.rd .d) (.cons (.rd .d) (.cons (.rd .d) (.cons (.ref rfl) .nil)))))) .nil) (BxTo_some rfl rfl rfl rfl (VwL_d _) (BxTo_some rfl rfl rfl rfl (.cons (.rd (.agg (.cons .d (.cons .d (.cons .d (.cons (.nil) .nil)))))) .nil) BxTo_nil))) (SlTo_cons (by exact .ptr rfl) (SlTo_cons (by exact .rd .d) SlTo_nil))) ?_
     rintro f L ⟨rfl, rfl⟩
     exact retr_ok (({ s with bad := true }, term0, 0)) (by simp only [atomM, hsg]; rw [if_neg hgn, if_neg hno9, if_neg hno3, if_pos hq4]) [0, 1] (CExt.refl _) (.cell rfl rfl rfl rfl rfl rfl ts41 ta41 (by rfl) (by intro h; cases h) (.tmp rfl rfl .nil)) rfl rfl (BxF_stay rfl rfl rfl rfl rfl (.cons (.agg (.cons .d (.cons .d (.cons .d (.cons .d (.cons (.ref rfl) .nil)))))) .nil) rfl (BxF_cons rfl rfl rfl rfl rfl (VxL_d _) (Nat.le_refl _) BxF_nil)) (Nat.le_of_ble_eq_true rfl) (.cons .d (.cons .d .nil))
    ·refine AL_guard_t rfl rfl rfl ?_
     refine AL_ev (Ev_move) rfl ?_
     refine AL_ev (Ev_pick rfl) rfl ?_
     refine AL_nil ?_
     refine hK19 _ _ _ ?_
     refine AC_cond rfl (fun hc7 => ?_) (fun hc7 => ?_)
     ·have hq4 : (preO g.x).2 = true ∨ (betw g.x).2 = true := .inr hc7
      refine AC_seq fun K22 hK22 => ?_
      refine AC_region ?_
      refine AL_ev (Ev_move) rfl ?_
      refine AL_ev (Ev_nilc_ptr rfl) rfl ?_
      refine AL_ev (Ev_fa_ptr rfl fa145_2 rfl rfl) rfl ?_
      refine AL_store rfl (nf rfl) rfl rfl rfl rfl rfl rfl (by rfl) ts4 rfl rfl ?_
      refine AL_nil ?_
      refine hK22 _ _ _ ?_
      refine AC_seq fun K23 hK23 => ?_
      refine AC_region ?_
      refine AL_ev (Ev_build (fs := [.one, .one, .one, .one]) (zs := [.c (.int .i64 0), .c (.string ⟨#[]⟩), .c (.int .i64 0), .c (.slice none 0 0)]) tz41 rfl tpl41 .nil) rfl ?_
      refine AL_store rfl (nf rfl) rfl rfl rfl rfl rfl rfl (by rfl) ts41 rfl rfl ?_
      refine AL_ev (Ev_assign) rfl ?_
      refine AL_nil ?_
      refine hK23 _ _ _ ?_
      refine AC_ret ?_
      refine fin_of_wk (enterS (ks := []) (g := fun _ => V.any) (ms := [(4, .ptr LT 2 0 []), (5, i64 0)]) (L2 := [some (rBox ⟨145, some (o 0)⟩ 1 xs ({ s with bad := true })), some (nBox 9 ({ s with bad := true })), some ⟨41, LT, [.d (inj (term0))]⟩]) [some 0, some 1, some 2] rfl rfl (BxTo_some rfl rfl rfl rfl (.cons (.agg (.cons (.rd .d) (.cons (.rd .d) (.cons (.rd .d) (.cons (.rd .d) (.cons (.ref rfl) .nil)))))) .nil) (BxTo_some rfl rfl rfl rfl (VwL_d _) (BxTo_some rfl rfl rfl rfl (.cons (.rd (.agg (.cons .d (.cons .d (.cons .d (.cons (.nil) .nil)))))) .nil) BxTo_nil))) (SlTo_cons (by exact .ptr rfl) (SlTo_cons (by exact .rd .d) SlTo_nil))) ?_
      rintro f L ⟨rfl, rfl⟩
      exact retr_ok (({ s with bad := true }, term0, 0)) (by simp only [atomM, hsg]; rw [if_neg hgn, if_neg hno9, if_neg hno3, if_pos hq4]) [0, 1] (CExt.refl _) (.cell rfl rfl rfl rfl rfl rfl ts41 ta41 (by rfl) (by intro h; cases h) (.tmp rfl rfl .nil)) rfl rfl (BxF_stay rfl rfl rfl rfl rfl (.cons (.agg (.cons .d (.cons .d (.cons .d (.cons .d (.cons (.ref rfl) .nil)))))) .nil) rfl (BxF_cons rfl rfl rfl rfl rfl (VxL_d _) (Nat.le_refl _) BxF_nil)) (Nat.le_of_ble_eq_true rfl) (.cons .d (.cons .d .nil))
     ·have hno4 : ¬ ((preO g.x).2 = true ∨ (betw g.x).2 = true) := by rw [hg6, hc7]; simp
      refine AC_skip ?_
      refine hK18 _ _ _ ?_
      refine AC_seq fun K24 hK24 => ?_
      refine AC_region ?_
      refine AL_ev (Ev_move) rfl ?_
      refine AL_ev (Ev_move) rfl ?_
      refine AL_ev (Ev_nilc_ptr rfl) rfl ?_
      refine AL_ev (Ev_fa_ptr rfl fa145_1 rfl rfl) rfl ?_
      refine AL_ev (Ev_load_ptr rfl rfl rfl rfl rfl rfl ts3 ta3 rfl (fun _ => rfl)) rfl ?_
      refine AL_ev (Ev_add rfl rfl _ (wrap_id (by omega) (by omega))) rfl ?_
      refine AL_ev (Ev_nilc_ptr rfl) rfl ?_
      refine AL_ev (Ev_fa_ptr rfl fa145_1 rfl rfl) rfl ?_
      refine AL_store rfl (nf rfl) rfl rfl rfl rfl rfl rfl (by rfl) ts3 rfl rfl ?_
      refine AL_nil ?_
      refine hK24 _ _ _ ?_
      refine AC_seq fun K25 hK25 => ?_
      refine AC_region ?_
      refine AL_ev (Ev_fa_ptr rfl fa139_1 rfl rfl) rfl ?_
      refine AL_ev (Ev_load_ptr rfl rfl rfl rfl rfl rfl ts9 ta9 rfl (fun _ => rfl)) rfl ?_
      refine AL_fcall0 hT rfl cl58 (c_atom03 g.x) rfl rfl ?_
      refine AL_store rfl (nf rfl) rfl rfl rfl rfl rfl rfl (by rfl) ts41 rfl rfl ?_
      refine AL_ev (Ev_assign) rfl ?_
      refine AL_nil ?_
      refine hK25 _ _ _ ?_
      refine AC_ret ?_
      exact retr_ok (({ s with i := s.i + 1 }, atom0 g.x, 0)) (by simp only [atomM, hsg]; rw [if_neg hgn, if_neg hno9, if_neg hno3, if_neg hno4]) [0, 1] (CExt.refl _) (.cell rfl rfl rfl rfl rfl rfl ts41 ta41 (by rfl) (by intro h; cases h) (.tmp rfl rfl .nil)) rfl rfl (BxF_stay rfl rfl rfl rfl rfl (.cons (.agg (.cons .d (.cons .d (.cons .d (.cons .d (.cons (.ref rfl) .nil)))))) .nil) rfl (BxF_cons rfl rfl rfl rfl rfl (VxL_d _) (Nat.le_refl _) BxF_nil)) (Nat.le_of_ble_eq_true rfl) (.cons .d (.cons .d .nil))
end Go.Proofs.YtjgliechbnommaaGreatDoor
set_option linter.unusedVariables false
set_option linter.unusedSimpArgs false
namespace Go.Proofs.YtjgliechbnommaaGreatDoor
open Go.Eng
theorem cl161 : Callable Tryz.prog 161 := Callable_of Tryz.func161 (by kernel_rfl) (by kernel_rfl)
theorem cl162 : Callable Tryz.prog 162 := Callable_of Tryz.func162 (by kernel_rfl) (by kernel_rfl)
theorem cl172 : Callable Tryz.prog 172 := Callable_of Tryz.func172 (by kernel_rfl) (by kernel_rfl)
theorem cl174 : Callable Tryz.prog 174 := Callable_of Tryz.func174 (by kernel_rfl) (by kernel_rfl)
theorem cl175 : Callable Tryz.prog 175 := Callable_of Tryz.func175 (by kernel_rfl) (by kernel_rfl)
theorem cl176 : Callable Tryz.prog 176 := Callable_of Tryz.func176 (by kernel_rfl) (by kernel_rfl)
theorem fa145_3 : tyField Tryz.prog 145 3 = some (3, true) := by kernel_rfl
theorem fa161_0 : tyField Tryz.prog 161 0 = some (0, true) := by kernel_rfl
theorem fa161_2 : tyField Tryz.prog 161 2 = some (2, true) := by kernel_rfl
set_option maxHeartbeats 8000000 in
set_option maxRecDepth 4000 in
theorem c_primary (xs : List Sg) (s : Rs) (hl : xs.length ≤ 1048576) (hgs : GoodS xs) (d : Int) (n : Nat) (tm : Int → Rs → Rs × T) (htm : TmC Tryz.prog 139 145 9 xs d n tm) (hok : TmOk xs d n tm) (most : Int) (hs : Okr xs d s) (hb : s.bad = false) (hn : xs.length + 2 ≤ n + 1 + s.i) : RcC Tryz.prog 161 145 9 xs s [i64 most] (primM xs tm most s) (fun t => [.d (inj t.1), i64 t.2]) := by
 have hsi := hs.hi
 have hnn := hs.hn
 refine HCallX_of (n := 77) Tryz.func161 rfl rfl (Nat.le_of_ble_eq_true rfl) (Nat.le_of_ble_eq_true rfl) fun C0 o hT => ?_
 refine AC_seq fun K1 hK1 => ?_
 refine AC_region ?_
 refine AL_alloc zo41 _ rfl rfl ?_
 refine AL_ev (Ev_assign) rfl ?_
 refine AL_nil ?_
 refine hK1 _ _ _ ?_
 refine AC_seq fun K2 hK2 => ?_
 refine AC_block ?_
 refine AC_seq fun K3 hK3 => ?_
 refine AC_region ?_
 refine AL_ev (Ev_move) rfl ?_
 refine AL_qcall hT rfl cl140 (c_is xs (s) 1 (⟨#[]⟩) (by omega)) (.cons (.rd (.ptr trivial rfl rfl rfl (.agg (.cons .d (.cons .d (.cons .d (.cons .d (.cons (.ref trivial rfl rfl (by simp) (ReadsL_d _)) .nil)))))))) (.cons (.rd .d) (.cons (.rd .d) .nil))) rfl ?_
 refine AL_ev (Ev_assign) rfl ?_
 refine AL_nil ?_
 refine hK3 _ _ _ ?_
 refine AC_cond rfl (fun hc1 => ?_) (fun hc1 => ?_)
 ·refine AC_seq fun K4 hK4 => ?_
  refine AC_region ?_
  refine AL_ev (Ev_move) rfl ?_
  refine AL_ev (Ev_move) rfl ?_
  refine AL_rcc hT 0 3 rfl cl172 (c_atomR xs s hl hgs d n tm htm hok most hs hc1 hn) rfl (.cons .d .nil) rfl rfl rfl rfl rfl (fun _ => (.cons .d (.cons .d .nil))) rfl ?_
  rintro ⟨s1, t1⟩ hz1
  refine AL_ev (Ev_extract rfl rfl) rfl ?_
  refine AL_ev (Ev_extract rfl rfl) rfl ?_
  refine AL_store rfl (nf rfl) rfl rfl rfl rfl rfl rfl (by simp [Lay.len, Lay.lens]) ts41 rfl rfl ?_
  refine AL_ev (Ev_assign) rfl ?_
  refine AL_nil ?_
  refine hK4 _ _ _ ?_
  refine AC_ret ?_
  exact retr_ok ((s1, t1)) (by simp only [primM]; rw [if_pos hc1]; exact hz1) [3, 4] (CExt.refl _) (.cell rfl rfl rfl rfl rfl rfl ts41 ta41 (by simp) (by intro h; cases h) (.tmp rfl rfl .nil)) rfl rfl (BxF_stay rfl rfl rfl rfl rfl (.cons (.agg (.cons .d (.cons .d (.cons .d (.cons .d (.cons (.ref rfl) .nil)))))) .nil) rfl (BxF_cons rfl rfl rfl rfl rfl (VxL_d _) (Nat.le_refl _) BxF_nil)) (Nat.le_of_ble_eq_true rfl) (.cons .d (.cons .d .nil))
 ·have hn1 : ¬ isM xs s 1 ⟨#[]⟩ = true := by rw [hc1]; decide
  refine AC_seq fun K5 hK5 => ?_
  refine AC_region ?_
  refine AL_ev (Ev_move) rfl ?_
  refine AL_rcc hT 0 3 rfl cl173 (c_mark xs s hl ⟨#[40]⟩ hs.hi) rfl (.cons .d .nil) rfl rfl rfl rfl rfl (fun _ => (.cons .d .nil)) rfl ?_
  rintro ⟨s2, t2⟩ hz2
  refine AL_ev (Ev_assign) rfl ?_
  refine AL_nil ?_
  refine hK5 _ _ _ ?_
  refine AC_cond rfl (fun hc2 => ?_) (fun hc2 => ?_)
  ·subst hc2
   have hm2 := mark_t hz2
   have hl2 := isM_lt hm2.1
   have hok2 : Okr xs d s2 := by rw [hm2.2]; exact hs.adv 1 (by omega)
   have hb2 : s2.bad = false := by rw [hm2.2]; exact hb
   have hn2 : xs.length + 2 ≤ n + s2.i := by rw [hm2.2]; show xs.length + 2 ≤ n + (s.i + 1); omega
   refine AC_seq fun K6 hK6 => ?_
   refine AC_region ?_
   refine AL_ev (Ev_move) rfl ?_
   refine AL_rcc hT 3 5 rfl cl174 (c_round xs s2 hl d n tm htm hok hok2 hb2 hn2) rfl .nil rfl rfl rfl rfl rfl (fun _ => (.cons .d .nil)) rfl ?_
   rintro ⟨s3, t3⟩ hz3
   refine AL_store rfl (nf rfl) rfl rfl rfl rfl rfl rfl (by simp [Lay.len, Lay.lens]) ts41 rfl rfl ?_
   refine AL_ev (Ev_assign) rfl ?_
   refine AL_nil ?_
   refine hK6 _ _ _ ?_
   refine AC_ret ?_
   exact retr_ok ((s3, t3, 0)) (by simp only [primM]; rw [if_neg hn1, if_pos hm2.1, ← hm2.2, ← hz3]) [5, 6] (CExt.refl _) (.cell rfl rfl rfl rfl rfl rfl ts41 ta41 (by simp) (by intro h; cases h) (.tmp rfl rfl .nil)) rfl rfl (BxF_stay rfl rfl rfl rfl rfl (.cons (.agg (.cons .d (.cons .d (.cons .d (.cons .d (.cons (.ref rfl) .nil)))))) .nil) rfl (BxF_cons rfl rfl rfl rfl rfl (VxL_d _) (Nat.le_refl _) BxF_nil)) (Nat.le_of_ble_eq_true rfl) (.cons .d (.cons .d .nil))
  ·subst hc2
   have hm2 := mark_f hz2
   have hn2 : ¬ isM xs s 4 ⟨#[40]⟩ = true := by rw [hm2.1]; decide
   refine AC_seq fun K7 hK7 => ?_
   refine AC_region ?_
   refine AL_ev (Ev_move) rfl ?_
   refine AL_rcc hT 3 5 rfl cl173 (c_mark xs s2 hl ⟨#[91]⟩ (by rw [hm2.2]; exact hs.hi)) rfl (.cons .d .nil) rfl rfl rfl rfl rfl (fun _ => (.cons .d .nil)) rfl ?_
   rintro ⟨s4, t4⟩ hz4
   refine AL_ev (Ev_assign) rfl ?_
   refine AL_nil ?_
   refine hK7 _ _ _ ?_
   refine AC_cond rfl (fun hc3 => ?_) (fun hc3 => ?_)
   ·subst hc3
    have hm4 := mark_t hz4
    rw [hm2.2] at hm4
    have hl4 := isM_lt hm4.1
    have hok4 : Okr xs d s4 := by rw [hm4.2]; exact hs.adv 1 (by omega)
    have hb4 : s4.bad = false := by rw [hm4.2]; exact hb
    have hn4 : xs.length + 2 ≤ n + s4.i := by rw [hm4.2]; show xs.length + 2 ≤ n + (s.i + 1); omega
    refine AC_seq fun K8 hK8 => ?_
    refine AC_region ?_
    refine AL_ev (Ev_move) rfl ?_
    refine AL_rcc hT 5 7 rfl cl175 (c_row xs s4 hl d n tm htm hok hok4 hb4 hn4 _ rfl) rfl .nil rfl rfl rfl rfl rfl (fun _ => (.cons .d .nil)) rfl ?_
    rintro ⟨s5, t5⟩ hz5
    refine AL_store rfl (nf rfl) rfl rfl rfl rfl rfl rfl (by simp [Lay.len, Lay.lens]) ts41 rfl rfl ?_
    refine AL_ev (Ev_assign) rfl ?_
    refine AL_nil ?_
    refine hK8 _ _ _ ?_
    refine AC_ret ?_
    exact retr_ok ((s5, t5, 0)) (by simp only [primM]; rw [if_neg hn1, if_neg hn2, if_pos hm4.1, ← hm4.2, ← hz5]) [7, 8] (CExt.refl _) (.cell rfl rfl rfl rfl rfl rfl ts41 ta41 (by simp) (by intro h; cases h) (.tmp rfl rfl .nil)) rfl rfl (BxF_stay rfl rfl rfl rfl rfl (.cons (.agg (.cons .d (.cons .d (.cons .d (.cons .d (.cons (.ref rfl) .nil)))))) .nil) rfl (BxF_cons rfl rfl rfl rfl rfl (VxL_d _) (Nat.le_refl _) BxF_nil)) (Nat.le_of_ble_eq_true rfl) (.cons .d (.cons .d .nil))
   ·subst hc3
    have hm4 := mark_f hz4
    rw [hm2.2] at hm4
    have hn4 : ¬ isM xs s 4 ⟨#[91]⟩ = true := by rw [hm4.1]; decide
    have hi4 : s4.i ≤ xs.length + 1 := by rw [hm4.2]; exact hsi
    refine AC_seq fun K9 hK9 => ?_
    refine AC_wk (Wk_to [some 5, some 6, some 2] [(0, .ptr LRD 0 0 []), (4, .ptr LT 2 0 [])] [some (rBox ⟨145, some (o 0)⟩ 1 xs s4), some (nBox 9 s4), some ⟨41, LT, [.d zT]⟩] rfl rfl (BxTo_some rfl rfl rfl rfl (.cons (.agg (.cons (.rd .d) (.cons (.rd .d) (.cons (.rd .d) (.cons (.rd .d) (.cons (.ref rfl) .nil)))))) .nil) (BxTo_some rfl rfl rfl rfl (VwL_d _) (BxTo_some rfl rfl rfl rfl (.cons (.rd .d) .nil) BxTo_nil))) (SlTo_cons (.ptr rfl) (SlTo_cons (by exact .ptr rfl) SlTo_nil)) ?_)
    refine AC_region ?_
    refine AL_ev (Ev_move) rfl ?_
    refine AL_qcall hT rfl cl140 (c_is xs (s4) 3 (⟨#[]⟩) (by omega)) (.cons (.rd (.ptr trivial rfl rfl rfl (.agg (.cons .d (.cons .d (.cons .d (.cons .d (.cons (.ref trivial rfl rfl (by simp) (ReadsL_d _)) .nil)))))))) (.cons (.rd .d) (.cons (.rd .d) .nil))) rfl ?_
    refine AL_ev (Ev_assign) rfl ?_
    refine AL_nil ?_
    refine hK9 _ _ _ ?_
    refine AC_cond rfl (fun hc4 => ?_) (fun hc4 => ?_)
    ·have hl6 := isM_lt hc4
     refine Exists.elim (show ∃ v, xs[s4.i]? = some v from ⟨_, List.getElem?_eq_getElem hl6.2.1⟩) fun g hg => ?_
     have hg3 : (injGs xs)[((((s4.i : Nat) : Int) + 1) - 1).toNat]? = some (injG g) := by rw [show ((((s4.i : Nat) : Int) + 1) - 1).toNat = s4.i by omega]; simpa using injGs_get hg
     refine AC_seq fun K10 hK10 => ?_
     refine AC_region ?_
     refine AL_ev (Ev_move) rfl ?_
     refine AL_ev (Ev_move) rfl ?_
     refine AL_ev (Ev_nilc_ptr rfl) rfl ?_
     refine AL_ev (Ev_fa_ptr rfl fa145_1 rfl rfl) rfl ?_
     refine AL_ev (Ev_load_ptr rfl rfl rfl rfl rfl rfl ts3 ta3 rfl (fun _ => rfl)) rfl ?_
     refine AL_ev (Ev_add rfl rfl _ (wrap_id (by omega) (by omega))) rfl ?_
     refine AL_ev (Ev_nilc_ptr rfl) rfl ?_
     refine AL_ev (Ev_fa_ptr rfl fa145_1 rfl rfl) rfl ?_
     refine AL_store rfl (nf rfl) rfl rfl rfl rfl rfl rfl (by rfl) ts3 rfl rfl ?_
     refine AL_nil ?_
     refine hK10 _ _ _ ?_
     refine AC_seq fun K11 hK11 => ?_
     refine AC_draw hT follows [0, 1, 2, 3, 4, 5, 6, 7, 8, 9, 10, 11, 12, 13, 14] (by kernel_rfl) ?_
     refine DT_ev rfl (EA_move) rfl ?_
     refine DT_ev rfl (EA_nilc_ptr rfl) rfl ?_
     refine DT_ev rfl (EA_fa_ptr rfl fa145_0 rfl rfl) rfl ?_
     refine DT_ev rfl (EA_load_ptr rfl rfl rfl rfl rfl rfl ts119 ta119 rfl (fun _ => rfl)) rfl ?_
     refine DT_ev rfl (EA_move) rfl ?_
     refine DT_ev rfl (EA_nilc_ptr rfl) rfl ?_
     refine DT_ev rfl (EA_fa_ptr rfl fa145_1 rfl rfl) rfl ?_
     refine DT_ev rfl (EA_load_ptr rfl rfl rfl rfl rfl rfl ts3 ta3 rfl (fun _ => rfl)) rfl ?_
     refine DT_ev rfl (EA_sub rfl rfl _ (wrap_id (by omega) (by omega))) rfl ?_
     refine DT_ev rfl (EA_ix_sl rfl rfl te119 ts139 (by omega) (by assumption)) rfl ?_
     refine DT_ev rfl (EA_fa_rp rfl fa139_2 rfl rfl) rfl ?_
     refine DT_ev rfl (EA_load_rp rfl rfl rfl ts3 ta3 rfl (fun _ => rfl)) rfl ?_
     refine DT_fcall0 rfl rfl cl119 (c_num03 g.m) rfl rfl ?_
     refine DT_store rfl rfl (nf rfl) rfl rfl rfl rfl rfl rfl (by rfl) ts41 rfl rfl ?_
     refine DT_ev rfl (EA_assign) rfl ?_
     refine DTi.nil ?_
     refine hK11 _ _ _ ?_
     refine AC_ret ?_
     exact retr_ok (({ s4 with i := s4.i + 1 }, .mk 3 ⟨#[]⟩ g.m [], 0)) (by have e := hm4.2; subst e; simp only [primM]; rw [if_neg hn1, if_neg hn2, if_neg hn4, if_pos hc4]; simp only [sgAt, hg]) [0, 1] (CExt.refl _) (.cell rfl rfl rfl rfl rfl rfl ts41 ta41 (by rfl) (by intro h; cases h) (.tmp rfl rfl .nil)) rfl rfl (BxF_stay rfl rfl rfl rfl rfl (.cons (.agg (.cons .d (.cons .d (.cons .d (.cons .d (.cons (.ref rfl) .nil)))))) .nil) rfl (BxF_cons rfl rfl rfl rfl rfl (VxL_d _) (Nat.le_refl _) BxF_nil)) (Nat.le_of_ble_eq_true rfl) (.cons .d (.cons .d .nil))
    ·have hn6 : ¬ isM xs s 3 ⟨#[]⟩ = true := by rw [← hm4.2, hc4]; decide
     refine AC_seq fun K12 hK12 => ?_
     refine AC_region ?_
     refine AL_ev (Ev_move) rfl ?_
     refine AL_qcall hT rfl cl140 (c_is xs (s4) 2 (⟨#[]⟩) (by omega)) (.cons (.rd (.ptr trivial rfl rfl rfl (.agg (.cons .d (.cons .d (.cons .d (.cons .d (.cons (.ref trivial rfl rfl (by simp) (ReadsL_d _)) .nil)))))))) (.cons (.rd .d) (.cons (.rd .d) .nil))) rfl ?_
     refine AL_ev (Ev_assign) rfl ?_
     refine AL_nil ?_
     refine hK12 _ _ _ ?_
     refine AC_cond rfl (fun hc5 => ?_) (fun hc5 => ?_)
     ·have hl6 := isM_lt hc5
      refine Exists.elim (show ∃ v, xs[s4.i]? = some v from ⟨_, List.getElem?_eq_getElem hl6.2.1⟩) fun g hg => ?_
      have hg3 : (injGs xs)[((((s4.i : Nat) : Int) + 1) - 1).toNat]? = some (injG g) := by rw [show ((((s4.i : Nat) : Int) + 1) - 1).toNat = s4.i by omega]; simpa using injGs_get hg
      refine AC_seq fun K13 hK13 => ?_
      refine AC_region ?_
      refine AL_ev (Ev_move) rfl ?_
      refine AL_ev (Ev_move) rfl ?_
      refine AL_ev (Ev_nilc_ptr rfl) rfl ?_
      refine AL_ev (Ev_fa_ptr rfl fa145_1 rfl rfl) rfl ?_
      refine AL_ev (Ev_load_ptr rfl rfl rfl rfl rfl rfl ts3 ta3 rfl (fun _ => rfl)) rfl ?_
      refine AL_ev (Ev_add rfl rfl _ (wrap_id (by omega) (by omega))) rfl ?_
      refine AL_ev (Ev_nilc_ptr rfl) rfl ?_
      refine AL_ev (Ev_fa_ptr rfl fa145_1 rfl rfl) rfl ?_
      refine AL_store rfl (nf rfl) rfl rfl rfl rfl rfl rfl (by rfl) ts3 rfl rfl ?_
      refine AL_nil ?_
      refine hK13 _ _ _ ?_
      refine AC_seq fun K14 hK14 => ?_
      refine AC_draw hT follows [0, 1, 2, 3, 4, 5, 6, 7, 8, 9, 10, 11, 12, 13, 14, 15] (by kernel_rfl) ?_
      refine DT_ev rfl (EA_move) rfl ?_
      refine DT_ev rfl (EA_move) rfl ?_
      refine DT_ev rfl (EA_nilc_ptr rfl) rfl ?_
      refine DT_ev rfl (EA_fa_ptr rfl fa145_0 rfl rfl) rfl ?_
      refine DT_ev rfl (EA_load_ptr rfl rfl rfl rfl rfl rfl ts119 ta119 rfl (fun _ => rfl)) rfl ?_
      refine DT_ev rfl (EA_move) rfl ?_
      refine DT_ev rfl (EA_nilc_ptr rfl) rfl ?_
      refine DT_ev rfl (EA_fa_ptr rfl fa145_1 rfl rfl) rfl ?_
      refine DT_ev rfl (EA_load_ptr rfl rfl rfl rfl rfl rfl ts3 ta3 rfl (fun _ => rfl)) rfl ?_
      refine DT_ev rfl (EA_sub rfl rfl _ (wrap_id (by omega) (by omega))) rfl ?_
      refine DT_ev rfl (EA_ix_sl rfl rfl te119 ts139 (by omega) (by assumption)) rfl ?_
      refine DT_ev rfl (EA_fa_rp rfl fa139_1 rfl rfl) rfl ?_
      refine DT_ev rfl (EA_load_rp rfl rfl rfl ts9 ta9 rfl (fun _ => rfl)) rfl ?_
      refine DTi.t [0, 1, 2, 3, 4, 5, 6, 7, 8, 9, 10, 11, 12, 13, 14, 15] (os := [_, _, _]) (by kernel_rfl) rfl ?_
      refine AL_rcc hT 0 3 rfl cl176 (c_variable xs { s4 with i := s4.i + 1 } hl g.x (by show s4.ns.length ≤ 1048577; rw [hm4.2]; omega)) rfl (.cons .d .nil) rfl rfl rfl rfl rfl (fun _ => (.cons .d .nil)) rfl ?_
      rintro ⟨s6, t6⟩ hz6
      refine AL_store rfl (nf rfl) rfl rfl rfl rfl rfl rfl (by simp [Lay.len, Lay.lens]) ts41 rfl rfl ?_
      refine AL_ev (Ev_assign) rfl ?_
      refine AL_nil ?_
      refine hK14 _ _ _ ?_
      refine AC_ret ?_
      exact retr_ok ((s6, t6, 0)) (by have e := hm4.2; subst e; simp only [primM]; rw [if_neg hn1, if_neg hn2, if_neg hn4, if_neg hn6, if_pos hc5]; simp only [sgAt, hg]; rw [← hz6]) [3, 4] (CExt.refl _) (.cell rfl rfl rfl rfl rfl rfl ts41 ta41 (by simp) (by intro h; cases h) (.tmp rfl rfl .nil)) rfl rfl (BxF_stay rfl rfl rfl rfl rfl (.cons (.agg (.cons .d (.cons .d (.cons .d (.cons .d (.cons (.ref rfl) .nil)))))) .nil) rfl (BxF_cons rfl rfl rfl rfl rfl (VxL_d _) (Nat.le_refl _) BxF_nil)) (Nat.le_of_ble_eq_true rfl) (.cons .d (.cons .d .nil))
     ·have hn7 : ¬ isM xs s 2 ⟨#[]⟩ = true := by rw [← hm4.2, hc5]; decide
      refine AC_skip ?_
      refine hK2 _ _ _ ?_
      refine AC_seq fun K15 hK15 => ?_
      refine AC_region ?_
      refine AL_ev (Ev_move) rfl ?_
      refine AL_ev (Ev_nilc_ptr rfl) rfl ?_
      refine AL_ev (Ev_fa_ptr rfl fa145_2 rfl rfl) rfl ?_
      refine AL_store rfl (nf rfl) rfl rfl rfl rfl rfl rfl (by rfl) ts4 rfl rfl ?_
      refine AL_nil ?_
      refine hK15 _ _ _ ?_
      refine AC_seq fun K16 hK16 => ?_
      refine AC_region ?_
      refine AL_ev (Ev_build (fs := [.one, .one, .one, .one]) (zs := [.c (.int .i64 0), .c (.string ⟨#[]⟩), .c (.int .i64 0), .c (.slice none 0 0)]) tz41 rfl tpl41 .nil) rfl ?_
      refine AL_store rfl (nf rfl) rfl rfl rfl rfl rfl rfl (by rfl) ts41 rfl rfl ?_
      refine AL_ev (Ev_assign) rfl ?_
      refine AL_nil ?_
      refine hK16 _ _ _ ?_
      refine AC_ret ?_
      refine fin_of_wk (enterS (ks := []) (g := fun _ => V.any) (ms := [(4, .ptr LT 2 0 []), (5, i64 0)]) (L2 := [some (rBox ⟨145, some (o 0)⟩ 1 xs ({ s4 with bad := true })), some (nBox 9 ({ s4 with bad := true })), some ⟨41, LT, [.d (inj (term0))]⟩]) [some 0, some 1, some 2] rfl rfl (BxTo_some rfl rfl rfl rfl (.cons (.agg (.cons (.rd .d) (.cons (.rd .d) (.cons (.rd .d) (.cons (.rd .d) (.cons (.ref rfl) .nil)))))) .nil) (BxTo_some rfl rfl rfl rfl (VwL_d _) (BxTo_some rfl rfl rfl rfl (.cons (.rd (.agg (.cons .d (.cons .d (.cons .d (.cons (.nil) .nil)))))) .nil) BxTo_nil))) (SlTo_cons (by exact .ptr rfl) (SlTo_cons (by exact .rd .d) SlTo_nil))) ?_
      rintro f L ⟨rfl, rfl⟩
      exact retr_ok (({ s4 with bad := true }, term0, 0)) (by have e := hm4.2; subst e; simp only [primM]; rw [if_neg hn1, if_neg hn2, if_neg hn4, if_neg hn6, if_neg hn7]) [0, 1] (CExt.refl _) (.cell rfl rfl rfl rfl rfl rfl ts41 ta41 (by rfl) (by intro h; cases h) (.tmp rfl rfl .nil)) rfl rfl (BxF_stay rfl rfl rfl rfl rfl (.cons (.agg (.cons .d (.cons .d (.cons .d (.cons .d (.cons (.ref rfl) .nil)))))) .nil) rfl (BxF_cons rfl rfl rfl rfl rfl (VxL_d _) (Nat.le_refl _) BxF_nil)) (Nat.le_of_ble_eq_true rfl) (.cons .d (.cons .d .nil))
set_option maxHeartbeats 8000000 in
set_option maxRecDepth 4000 in
theorem c_termS (xs : List Sg) (s : Rs) (hl : xs.length ≤ 1048576) (hgs : GoodS xs) (hx : ∀ g ∈ xs, g.x.size ≤ 32) (d : Int) (n : Nat) (tm : Int → Rs → Rs × T) (htm0 : d + 1 ≤ 130 → TmC Tryz.prog 139 145 9 xs (d + 1) n tm) (hok9 : d + 1 ≤ 130 → TmOk xs (d + 1) n tm) (most : Int) (hs : Okr xs d s) (hb : s.bad = false) (hd0 : 0 ≤ d) (hd1 : d ≤ 130) (hn : xs.length + 2 ≤ n + 1 + s.i) : RcC Tryz.prog 139 145 9 xs s [i64 most] (termB xs tm most s) (fun t => [.d (inj t)]) := by
 have hsi := hs.hi
 have hde := hs.de hb
 have hd2 := hs.d1
 refine HCallX_of (n := 91) Tryz.func139 rfl rfl (Nat.le_of_ble_eq_true rfl) (Nat.le_of_ble_eq_true rfl) fun C0 o hT => ?_
 refine AC_seq fun K1 hK1 => ?_
 refine AC_region ?_
 refine AL_alloc zo41 _ rfl rfl ?_
 refine AL_nil ?_
 refine hK1 _ _ _ ?_
 refine AC_seq fun K2 hK2 => ?_
 refine AC_region ?_
 refine AL_ev (Ev_move) rfl ?_
 refine AL_ev (Ev_move) rfl ?_
 refine AL_ev (Ev_nilc_ptr rfl) rfl ?_
 refine AL_ev (Ev_fa_ptr rfl fa145_3 rfl rfl) rfl ?_
 refine AL_ev (Ev_load_ptr rfl rfl rfl rfl rfl rfl ts3 ta3 rfl (fun _ => rfl)) rfl ?_
 refine AL_ev (Ev_add rfl rfl _ (wrap_id (by omega) (by omega))) rfl ?_
 refine AL_ev (Ev_nilc_ptr rfl) rfl ?_
 refine AL_ev (Ev_fa_ptr rfl fa145_3 rfl rfl) rfl ?_
 refine AL_store rfl (nf rfl) rfl rfl rfl rfl rfl rfl (by rfl) ts3 rfl rfl ?_
 refine AL_nil ?_
 refine hK2 _ _ _ ?_
 refine AC_seq fun K3 hK3 => ?_
 refine AC_seq fun K4 hK4 => ?_
 refine AC_region ?_
 refine AL_ev (Ev_move) rfl ?_
 refine AL_ev (Ev_nilc_ptr rfl) rfl ?_
 refine AL_ev (Ev_fa_ptr rfl fa145_2 rfl rfl) rfl ?_
 refine AL_ev (Ev_load_ptr rfl rfl rfl rfl rfl rfl ts4 ta4 rfl (fun _ => rfl)) rfl ?_
 refine AL_ev (Ev_move) rfl ?_
 refine AL_bool 22 rfl (fun hg1 => ?_) (fun hg1 => ?_)
 ·exact absurd (hb.symm.trans hg1) (by decide)
 ·refine AL_guard_t rfl rfl rfl ?_
  refine AL_ev (Ev_move) rfl ?_
  refine AL_guard_t rfl rfl rfl ?_
  refine AL_ev (Ev_nilc_ptr rfl) rfl ?_
  refine AL_guard_t rfl rfl rfl ?_
  refine AL_ev (Ev_fa_ptr rfl fa145_3 rfl rfl) rfl ?_
  refine AL_guard_t rfl rfl rfl ?_
  refine AL_ev (Ev_load_ptr rfl rfl rfl rfl rfl rfl ts3 ta3 rfl (fun _ => rfl)) rfl ?_
  refine AL_guard_t rfl rfl rfl ?_
  refine AL_ev (Ev_gtr rfl rfl) rfl ?_
  refine AL_ev (Ev_pick rfl) rfl ?_
  refine AL_nil ?_
  refine hK4 _ _ _ ?_
  refine AC_cond rfl (fun hc2 => ?_) (fun hc2 => ?_)
  ·have hq : s.bad = true ∨ 130 < s.deep + 1 := .inr (of_decide_eq_true hc2)
   refine AC_seq fun K5 hK5 => ?_
   refine AC_region ?_
   refine AL_ev (Ev_move) rfl ?_
   refine AL_ev (Ev_nilc_ptr rfl) rfl ?_
   refine AL_ev (Ev_fa_ptr rfl fa145_2 rfl rfl) rfl ?_
   refine AL_store rfl (nf rfl) rfl rfl rfl rfl rfl rfl (by rfl) ts4 rfl rfl ?_
   refine AL_nil ?_
   refine hK5 _ _ _ ?_
   refine AC_seq fun K6 hK6 => ?_
   refine AC_region ?_
   refine AL_ev (Ev_build (fs := [.one, .one, .one, .one]) (zs := [.c (.int .i64 0), .c (.string ⟨#[]⟩), .c (.int .i64 0), .c (.slice none 0 0)]) tz41 rfl tpl41 .nil) rfl ?_
   refine AL_store rfl (nf rfl) rfl rfl rfl rfl rfl rfl (by rfl) ts41 rfl rfl ?_
   refine AL_nil ?_
   refine hK6 _ _ _ ?_
   refine AC_ret ?_
   refine fin_of_wk (enterS (ks := []) (g := fun _ => V.any) (ms := [(4, .ptr LT 2 0 [])]) (L2 := [some (rBox ⟨145, some (o 0)⟩ 1 xs ({ s with bad := true, deep := s.deep + 1 })), some (nBox 9 ({ s with bad := true, deep := s.deep + 1 })), some ⟨41, LT, [.d (inj (term0))]⟩]) [some 0, some 1, some 2] rfl rfl (BxTo_some rfl rfl rfl rfl (.cons (.agg (.cons (.rd .d) (.cons (.rd .d) (.cons (.rd .d) (.cons (.rd .d) (.cons (.ref rfl) .nil)))))) .nil) (BxTo_some rfl rfl rfl rfl (VwL_d _) (BxTo_some rfl rfl rfl rfl (.cons (.rd (.agg (.cons .d (.cons .d (.cons .d (.cons (.nil) .nil)))))) .nil) BxTo_nil))) (SlTo_cons (by exact .ptr rfl) SlTo_nil)) ?_
   rintro f L ⟨rfl, rfl⟩
   exact retr_ok (({ s with bad := true, deep := s.deep + 1 }, term0)) (by simp only [termB]; rw [if_pos hq]) [0, 1] (CExt.refl _) (.cell rfl rfl rfl rfl rfl rfl ts41 ta41 (by rfl) (by intro h; cases h) .nil) rfl rfl (BxF_stay rfl rfl rfl rfl rfl (.cons (.agg (.cons .d (.cons .d (.cons .d (.cons .d (.cons (.ref rfl) .nil)))))) .nil) rfl (BxF_cons rfl rfl rfl rfl rfl (VxL_d _) (Nat.le_refl _) BxF_nil)) (Nat.le_of_ble_eq_true rfl) (.cons .d .nil)
  ·have hd3 : ¬ 130 < s.deep + 1 := of_decide_eq_false hc2
   have hq : ¬ (s.bad = true ∨ 130 < s.deep + 1) := by rintro (h | h); rw [hb] at h; cases h; exact hd3 h
   have htm := htm0 (by omega)
   have hok := hok9 (by omega)
   have hs1 : Okr xs (d + 1) { s with deep := s.deep + 1 } := ⟨hs.hi, hs.hn, by show d + 1 ≤ s.deep + 1; omega, by show s.deep + 1 ≤ 131; omega, fun _ => by show s.deep + 1 = d + 1; omega⟩
   refine AC_skip ?_
   refine hK3 _ _ _ ?_
   refine AC_seq fun K7 hK7 => ?_
   refine AC_region ?_
   refine AL_ev (Ev_move) rfl ?_
   refine AL_ev (Ev_move) rfl ?_
   refine AL_rcc hT 0 3 rfl cl161 (c_primary xs { s with deep := s.deep + 1 } hl hgs (d + 1) n tm htm hok most hs1 hb hn) rfl (.cons .d .nil) rfl rfl rfl rfl rfl (fun _ => (.cons .d (.cons .d .nil))) rfl ?_
   rintro ⟨s1, t1⟩ hz1
   have hp1 := prim_ok hx hok most hs1 hb hn
   rw [← hz1] at hp1
   try simp only at hp1
   have hq1 := hp1.ok
   have hle1 := hp1.le
   try simp only at hle1
   refine Exists.elim (show ∃ M, tailM xs tm most (xs.length + 3) s1 t1.1 t1.2 = M from ⟨_, rfl⟩) fun M hM => ?_
   have hE : termB xs tm most s = ({ M.1 with deep := M.1.deep - 1 }, M.2) := by simp only [termB]; rw [if_neg hq, ← hz1, hM]
   have hT9 := tail_ok hok most (xs.length + 3) s1 t1.1 t1.2 hq1 (fun _ => by omega)
   rw [hM] at hT9
   have hT8 := hT9.1.d0
   have hT7 := hT9.1.d1
   refine AL_ev (Ev_move) rfl ?_
   refine AL_ev (Ev_extract rfl rfl) rfl ?_
   refine AL_ev (Ev_extract rfl rfl) rfl ?_
   refine AL_alloc zo41 _ rfl rfl ?_
   refine AL_store rfl (nf rfl) rfl rfl rfl rfl rfl rfl (by simp [Lay.len, Lay.lens]) ts41 rfl rfl ?_
   refine AL_ev (Ev_assign) rfl ?_
   refine AL_nil ?_
   refine hK7 _ _ _ ?_
   refine AC_seqJ (fun f L => f = FS [] (fun _ => V.any) [(0, .ptr LRD 0 0 []), (4, .ptr LT 2 0 []), (5, .ptr LT 3 0 [])] ∧ L = [some (rBox ⟨145, some (o 0)⟩ 1 xs M.1), some (nBox 9 M.1), some ⟨41, LT, [.d zT]⟩, some ⟨41, LT, [.d (inj M.2)]⟩]) ?_ ?_
   ·refine AC_block ?_
    refine AC_loopS [] (Nat × Rs × T × Int) (fun q => [(0, .ptr LRD 0 0 []), (1, i64 most), (4, .ptr LT 2 0 []), (5, .ptr LT 3 0 []), (6, i64 q.2.2.2)]) (fun q => [some (rBox ⟨145, some (o 0)⟩ 1 xs q.2.1), some (nBox 9 q.2.1), some ⟨41, LT, [.d zT]⟩, some ⟨41, LT, [.d (inj q.2.2.1)]⟩]) (fun q => q.1) (fun q => tailM xs tm most q.1 q.2.1 q.2.2.1 q.2.2.2 = M ∧ Okr xs (d + 1) q.2.1 ∧ (q.2.1.bad = false → xs.length + 2 ≤ q.1 + q.2.1.i ∧ xs.length + 2 ≤ n + 1 + q.2.1.i)) ((xs.length + 3, s1, t1.1, t1.2)) ?_ ?_ ?_
    ·exact enterS [some 3, some 4, some 2, some 5] rfl rfl (BxTo_some rfl rfl rfl rfl (.cons (.agg (.cons (.rd .d) (.cons (.rd .d) (.cons (.rd .d) (.cons (.rd .d) (.cons (.ref rfl) .nil)))))) .nil) (BxTo_some rfl rfl rfl rfl (VwL_d _) (BxTo_some rfl rfl rfl rfl (.cons (.rd .d) .nil) (BxTo_some rfl rfl rfl rfl (.cons (.rd .d) .nil) BxTo_nil)))) (SlTo_cons (by exact .ptr rfl) (SlTo_cons (by exact .rd .d) (SlTo_cons (by exact .ptr rfl) (SlTo_cons (by exact .ptr rfl) (SlTo_cons (by exact .rd .d) SlTo_nil)))))
    ·exact ⟨hM, hq1, fun e => ⟨by show xs.length + 2 ≤ xs.length + 3 + s1.i; omega, by show xs.length + 2 ≤ n + 1 + s1.i; omega⟩⟩
    rintro ⟨m, s0, t0, p0⟩ ⟨hI, hok0, hf0⟩
    simp only at hI hok0 hf0
    refine AC_seq fun K9 hK9 => ?_
    refine AC_seq fun K10 hK10 => ?_
    refine AC_region ?_
    refine AL_ev (Ev_move) rfl ?_
    refine AL_ev (Ev_nilc_ptr rfl) rfl ?_
    refine AL_ev (Ev_fa_ptr rfl fa145_2 rfl rfl) rfl ?_
    refine AL_ev (Ev_load_ptr rfl rfl rfl rfl rfl rfl ts4 ta4 rfl (fun _ => rfl)) rfl ?_
    refine AL_ev (Ev_not rfl) rfl ?_
    refine AL_nil ?_
    refine hK10 _ _ _ ?_
    refine AC_cond rfl (fun hc3 => ?_) (fun hc3 => ?_)
    ·have hb0 : s0.bad = false := by simpa using hc3
     have hfb := hf0 hb0
     have hi9 := hok0.hi
     refine Exists.elim (show ∃ m1, m = m1 + 1 from ⟨m - 1, by omega⟩) fun m1 hm1 => ?_
     subst hm1
     rw [tailM, if_neg (show ¬ s0.bad = true by rw [hb0]; decide)] at hI
     refine AC_skip ?_
     refine hK9 _ _ _ ?_
     refine AC_block ?_
     refine AC_seq fun K11 hK11 => ?_
     refine AC_region ?_
     refine AL_ev (Ev_move) rfl ?_
     refine AL_rcc hT 0 4 rfl cl162 (c_infixR xs s0 hl hi9) rfl .nil rfl rfl rfl rfl rfl (fun _ => (.cons .d (.cons .d .nil))) rfl ?_
     rintro ⟨s2, t2⟩ hz2
     have e2 : s2 = s0 := congrArg Prod.fst hz2
     have e3 : t2 = nextM xs s0 := congrArg Prod.snd hz2
     have e4 : s2.i = s0.i := by rw [e2]
     rw [← e3] at hI
     try simp only at hI
     refine AL_ev (Ev_move) rfl ?_
     refine AL_ev (Ev_extract rfl rfl) rfl ?_
     refine AL_ev (Ev_extract rfl rfl) rfl ?_
     refine AL_alloc zo161 _ rfl rfl ?_
     refine AL_store rfl (nf rfl) rfl rfl rfl rfl rfl rfl (by rfl) ts161 rfl rfl ?_
     refine AL_ev (Ev_assign) rfl ?_
     refine AL_nil ?_
     refine hK11 _ _ _ ?_
     refine AC_seq fun K12 hK12 => ?_
     refine AC_seq fun K13 hK13 => ?_
     refine AC_region ?_
     refine AL_ev (Ev_move) rfl ?_
     refine AL_ev (Ev_not rfl) rfl ?_
     refine AL_ev (Ev_move) rfl ?_
     refine AL_bool 51 rfl (fun hg4 => ?_) (fun hg4 => ?_)
     ·have hx9 : t2.2 = false ∨ most < t2.1.pr ∨ t2.1.l < p0 := .inl (by simpa using hg4)
      rw [if_pos hx9] at hI
      refine AL_guard_f rfl rfl rfl rfl ?_
      refine AL_guard_f rfl rfl rfl rfl ?_
      refine AL_guard_f rfl rfl rfl rfl ?_
      refine AL_guard_f rfl rfl rfl rfl ?_
      refine AL_ev (Ev_pick rfl) rfl ?_
      refine AL_ev (Ev_move) rfl ?_
      refine AL_guard_f rfl rfl rfl rfl ?_
      refine AL_guard_f rfl rfl rfl rfl ?_
      refine AL_guard_f rfl rfl rfl rfl ?_
      refine AL_guard_f rfl rfl rfl rfl ?_
      refine AL_ev (Ev_pick rfl) rfl ?_
      refine AL_nil ?_
      refine hK13 _ _ _ ?_
      refine AC_cond_t rfl ?_
      refine AC_exit ?_
      rw [← e2] at hI
      subst hI
      exact fin_wk (enterS (ks := []) (g := fun _ => V.any) [some 4, some 5, some 2, some 3] rfl rfl (BxTo_some rfl rfl rfl rfl (.cons (.agg (.cons (.rd .d) (.cons (.rd .d) (.cons (.rd .d) (.cons (.rd .d) (.cons (.ref rfl) .nil)))))) .nil) (BxTo_some rfl rfl rfl rfl (VwL_d _) (BxTo_some rfl rfl rfl rfl (.cons (.rd .d) .nil) (BxTo_some rfl rfl rfl rfl (.cons (.rd .d) .nil) BxTo_nil)))) (SlTo_cons (.ptr rfl) (SlTo_cons (.ptr rfl) (SlTo_cons (.ptr rfl) SlTo_nil))))
     ·have ho2 : t2.2 = true := by simpa using hg4
      refine AL_guard_t rfl rfl rfl ?_
      refine AL_ev (Ev_fa_ptr rfl fa161_1 rfl rfl) rfl ?_
      refine AL_guard_t rfl rfl rfl ?_
      refine AL_ev (Ev_load_ptr rfl rfl rfl rfl rfl rfl ts3 ta3 rfl (fun _ => rfl)) rfl ?_
      refine AL_guard_t rfl rfl rfl ?_
      refine AL_ev (Ev_move) rfl ?_
      refine AL_guard_t rfl rfl rfl ?_
      refine AL_ev (Ev_gtr rfl rfl) rfl ?_
      refine AL_ev (Ev_pick rfl) rfl ?_
      refine AL_ev (Ev_move) rfl ?_
      refine AL_bool 57 rfl (fun hg5 => ?_) (fun hg5 => ?_)
      ·have hx9 : t2.2 = false ∨ most < t2.1.pr ∨ t2.1.l < p0 := .inr (.inl (of_decide_eq_true hg5))
       rw [if_pos hx9] at hI
       refine AL_guard_f rfl rfl rfl rfl ?_
       refine AL_guard_f rfl rfl rfl rfl ?_
       refine AL_guard_f rfl rfl rfl rfl ?_
       refine AL_guard_f rfl rfl rfl rfl ?_
       refine AL_ev (Ev_pick rfl) rfl ?_
       refine AL_nil ?_
       refine hK13 _ _ _ ?_
       refine AC_cond_t rfl ?_
       refine AC_exit ?_
       rw [← e2] at hI
       subst hI
       exact fin_wk (enterS (ks := []) (g := fun _ => V.any) [some 4, some 5, some 2, some 3] rfl rfl (BxTo_some rfl rfl rfl rfl (.cons (.agg (.cons (.rd .d) (.cons (.rd .d) (.cons (.rd .d) (.cons (.rd .d) (.cons (.ref rfl) .nil)))))) .nil) (BxTo_some rfl rfl rfl rfl (VwL_d _) (BxTo_some rfl rfl rfl rfl (.cons (.rd .d) .nil) (BxTo_some rfl rfl rfl rfl (.cons (.rd .d) .nil) BxTo_nil)))) (SlTo_cons (.ptr rfl) (SlTo_cons (.ptr rfl) (SlTo_cons (.ptr rfl) SlTo_nil))))
      ·refine AL_guard_t rfl rfl rfl ?_
       refine AL_ev (Ev_fa_ptr rfl fa161_2 rfl rfl) rfl ?_
       refine AL_guard_t rfl rfl rfl ?_
       refine AL_ev (Ev_load_ptr rfl rfl rfl rfl rfl rfl ts3 ta3 rfl (fun _ => rfl)) rfl ?_
       refine AL_guard_t rfl rfl rfl ?_
       refine AL_ev (Ev_move) rfl ?_
       refine AL_guard_t rfl rfl rfl ?_
       refine AL_ev (Ev_lss rfl rfl) rfl ?_
       refine AL_ev (Ev_pick rfl) rfl ?_
       refine AL_nil ?_
       refine hK13 _ _ _ ?_
       refine AC_cond rfl (fun hc6 => ?_) (fun hc6 => ?_)
       ·have hx9 : t2.2 = false ∨ most < t2.1.pr ∨ t2.1.l < p0 := .inr (.inr (of_decide_eq_true hc6))
        rw [if_pos hx9] at hI
        refine AC_exit ?_
        rw [← e2] at hI
        subst hI
        exact fin_wk (enterS (ks := []) (g := fun _ => V.any) [some 4, some 5, some 2, some 3] rfl rfl (BxTo_some rfl rfl rfl rfl (.cons (.agg (.cons (.rd .d) (.cons (.rd .d) (.cons (.rd .d) (.cons (.rd .d) (.cons (.ref rfl) .nil)))))) .nil) (BxTo_some rfl rfl rfl rfl (VwL_d _) (BxTo_some rfl rfl rfl rfl (.cons (.rd .d) .nil) (BxTo_some rfl rfl rfl rfl (.cons (.rd .d) .nil) BxTo_nil)))) (SlTo_cons (.ptr rfl) (SlTo_cons (.ptr rfl) (SlTo_cons (.ptr rfl) SlTo_nil))))
       ·have hx9 : ¬ (t2.2 = false ∨ most < t2.1.pr ∨ t2.1.l < p0) := by rintro (h | h | h); rw [ho2] at h; cases h; exact of_decide_eq_false hg5 h; exact of_decide_eq_false hc6 h
        rw [if_neg hx9, ← e2] at hI
        have hl2 := next_lt (xs := xs) (s := s0) (o := t2.1) (by rw [← e3]; exact Prod.ext rfl ho2)
        have hok2 : Okr xs (d + 1) { s2 with i := s2.i + 1 } := by rw [e2]; exact hok0.adv 1 (by omega)
        have hb2 : s2.bad = false := by rw [e2]; exact hb0
        have hn2 : xs.length + 2 ≤ n + (s2.i + 1) := by omega
        have hp3 := hok t2.1.r { s2 with i := s2.i + 1 } hok2 hb2 hn2
        refine AC_skip ?_
        refine hK12 _ _ _ ?_
        refine AC_seq fun K14 hK14 => ?_
        refine AC_wk (Wk_to [some 4, some 5, some 2, some 3, some 6] [(0, .ptr LRD 0 0 []), (1, i64 most), (4, .ptr LT 2 0 []), (5, .ptr LT 3 0 []), (6, i64 p0), (7, .ptr (Lay.st [.one, .one, .one, .one]) 4 0 [])] [some (rBox ⟨145, some (o 0)⟩ 1 xs s2), some (nBox 9 s2), some ⟨41, LT, [.d zT]⟩, some ⟨41, LT, [.d (inj t0)]⟩, some ⟨161, (Lay.st [.one, .one, .one, .one]), [.d (injO t2.1)]⟩] rfl rfl (BxTo_some rfl rfl rfl rfl (.cons (.agg (.cons (.rd .d) (.cons (.rd .d) (.cons (.rd .d) (.cons (.rd .d) (.cons (.ref rfl) .nil)))))) .nil) (BxTo_some rfl rfl rfl rfl (VwL_d _) (BxTo_some rfl rfl rfl rfl (.cons (.rd .d) .nil) (BxTo_some rfl rfl rfl rfl (.cons (.rd .d) .nil) (BxTo_some rfl rfl rfl rfl (.cons (.rd .d) .nil) BxTo_nil))))) (SlTo_cons (.ptr rfl) (SlTo_cons (by exact .rd .d) (SlTo_cons (by exact .ptr rfl) (SlTo_cons (by exact .ptr rfl) (SlTo_cons (by exact .rd .d) (SlTo_cons (by exact .ptr rfl) SlTo_nil)))))) ?_)
        refine AC_region ?_
        refine AL_ev (Ev_move) rfl ?_
        refine AL_ev (Ev_move) rfl ?_
        refine AL_ev (Ev_nilc_ptr rfl) rfl ?_
        refine AL_ev (Ev_fa_ptr rfl fa145_1 rfl rfl) rfl ?_
        refine AL_ev (Ev_load_ptr rfl rfl rfl rfl rfl rfl ts3 ta3 rfl (fun _ => rfl)) rfl ?_
        refine AL_ev (Ev_add rfl rfl _ (wrap_id (by omega) (by omega))) rfl ?_
        refine AL_ev (Ev_nilc_ptr rfl) rfl ?_
        refine AL_ev (Ev_fa_ptr rfl fa145_1 rfl rfl) rfl ?_
        refine AL_store rfl (nf rfl) rfl rfl rfl rfl rfl rfl (by rfl) ts3 rfl rfl ?_
        refine AL_nil ?_
        refine hK14 _ _ _ ?_
        refine AC_seq fun K15 hK15 => ?_
        refine AC_region ?_
        refine AL_ev (Ev_move) rfl ?_
        refine AL_ev (Ev_fa_ptr rfl fa161_3 rfl rfl) rfl ?_
        refine AL_ev (Ev_load_ptr rfl rfl rfl rfl rfl rfl ts3 ta3 rfl (fun _ => rfl)) rfl ?_
        refine AL_rcc hT 0 5 rfl cl139 (htm t2.1.r { s2 with i := s2.i + 1 } hok2 hb2 hn2) rfl (.cons .d .nil) rfl rfl rfl rfl rfl (fun _ => (.cons .d .nil)) rfl ?_
        rintro ⟨s3, t3⟩ hz3
        rw [← hz3] at hI hp3
        try simp only at hI
        try simp only at hp3
        have hq3 := hp3.ok
        have hi3 := hq3.hi
        have hle3 := hp3.le
        have hlt3 := hp3.lt
        try simp only at hle3
        try simp only at hlt3
        refine AL_alloc zo41 _ rfl rfl ?_
        refine AL_store rfl (nf rfl) rfl rfl rfl rfl rfl rfl (by simp [Lay.len, Lay.lens]) ts41 rfl rfl ?_
        refine AL_nil ?_
        refine hK15 _ _ _ ?_
        refine AC_seq fun K16 hK16 => ?_
        refine AC_region ?_
        refine AL_ev (Ev_fa_ptr rfl fa161_0 rfl rfl) rfl ?_
        refine AL_ev (Ev_load_ptr rfl rfl rfl rfl rfl rfl ts9 ta9 rfl (fun _ => rfl)) rfl ?_
        refine AL_ev (Ev_load_ptr rfl rfl rfl rfl rfl rfl ts41 ta41 (by simp) (by intro h; cases h)) rfl ?_
        refine AL_ev (Ev_load_ptr rfl rfl rfl rfl rfl rfl ts41 ta41 (by simp) (by intro h; cases h)) rfl ?_
        refine AL_fcall0 hT rfl cl121 (c_two t2.1.x t0 t3) rfl rfl ?_
        refine AL_store rfl (nf rfl) rfl rfl rfl rfl rfl rfl (by rfl) ts41 rfl rfl ?_
        refine AL_nil ?_
        refine hK16 _ _ _ ?_
        refine AC_region ?_
        refine AL_ev (Ev_fa_ptr rfl fa161_1 rfl rfl) rfl ?_
        refine AL_ev (Ev_load_ptr rfl rfl rfl rfl rfl rfl ts3 ta3 rfl (fun _ => rfl)) rfl ?_
        refine AL_ev (Ev_assign) rfl ?_
        refine AL_nil ?_
        refine closeS (m1, s3, .mk 4 t2.1.x 0 [t0, t3], t2.1.pr) [some 5, some 6, some 2, some 3] rfl rfl (Nat.lt_succ_self _) ⟨hI, hq3, fun h => ⟨by have b := hlt3 h; show xs.length + 2 ≤ m1 + s3.i; omega, by have b := hlt3 h; show xs.length + 2 ≤ n + 1 + s3.i; omega⟩⟩ (BxTo_some rfl rfl rfl rfl (.cons (.agg (.cons (.rd .d) (.cons (.rd .d) (.cons (.rd .d) (.cons (.rd .d) (.cons (.ref rfl) .nil)))))) .nil) (BxTo_some rfl rfl rfl rfl (VwL_d _) (BxTo_some rfl rfl rfl rfl (.cons (.rd .d) .nil) (BxTo_some rfl rfl rfl rfl (.cons (.rd .d) .nil) BxTo_nil)))) (SlTo_cons (by exact .ptr rfl) (SlTo_cons (by exact .rd .d) (SlTo_cons (by exact .ptr rfl) (SlTo_cons (by exact .ptr rfl) (SlTo_cons (by exact .rd .d) SlTo_nil)))))
    ·have hb0 : s0.bad = true := by simpa using hc3
     have hE2 : M = (s0, t0) := by rw [← hI]; cases m with | zero => rfl | succ m => rw [tailM, if_pos hb0]
     clear hI
     have hI := hE2.symm
     refine AC_exit ?_
     subst hI
     exact fin_wk (enterS (ks := []) (g := fun _ => V.any) [some 0, some 1, some 2, some 3] rfl rfl (BxTo_some rfl rfl rfl rfl (.cons (.agg (.cons (.rd .d) (.cons (.rd .d) (.cons (.rd .d) (.cons (.rd .d) (.cons (.ref rfl) .nil)))))) .nil) (BxTo_some rfl rfl rfl rfl (VwL_d _) (BxTo_some rfl rfl rfl rfl (.cons (.rd .d) .nil) (BxTo_some rfl rfl rfl rfl (.cons (.rd .d) .nil) BxTo_nil)))) (SlTo_cons (.ptr rfl) (SlTo_cons (.ptr rfl) (SlTo_cons (.ptr rfl) SlTo_nil))))
   ·rintro f L ⟨rfl, rfl⟩
    refine AC_seq fun K17 hK17 => ?_
    refine AC_region ?_
    refine AL_ev (Ev_move) rfl ?_
    refine AL_ev (Ev_move) rfl ?_
    refine AL_ev (Ev_nilc_ptr rfl) rfl ?_
    refine AL_ev (Ev_fa_ptr rfl fa145_3 rfl rfl) rfl ?_
    refine AL_ev (Ev_load_ptr rfl rfl rfl rfl rfl rfl ts3 ta3 rfl (fun _ => rfl)) rfl ?_
    refine AL_ev (Ev_sub rfl rfl _ (wrap_id (by omega) (by omega))) rfl ?_
    refine AL_ev (Ev_nilc_ptr rfl) rfl ?_
    refine AL_ev (Ev_fa_ptr rfl fa145_3 rfl rfl) rfl ?_
    refine AL_store rfl (nf rfl) rfl rfl rfl rfl rfl rfl (by rfl) ts3 rfl rfl ?_
    refine AL_nil ?_
    refine hK17 _ _ _ ?_
    refine AC_seq fun K18 hK18 => ?_
    refine AC_region ?_
    refine AL_ev (Ev_load_ptr rfl rfl rfl rfl rfl rfl ts41 ta41 (by simp) (by intro h; cases h)) rfl ?_
    refine AL_store rfl (nf rfl) rfl rfl rfl rfl rfl rfl (by simp [Lay.len, Lay.lens]) ts41 rfl rfl ?_
    refine AL_nil ?_
    refine hK18 _ _ _ ?_
    refine AC_ret ?_
    exact retr_ok (({ M.1 with deep := M.1.deep - 1 }, M.2)) (hE.symm) [0, 1] (CExt.refl _) (.cell rfl rfl rfl rfl rfl rfl ts41 ta41 (by simp) (by intro h; cases h) .nil) rfl rfl (BxF_stay rfl rfl rfl rfl rfl (.cons (.agg (.cons .d (.cons .d (.cons .d (.cons .d (.cons (.ref rfl) .nil)))))) .nil) rfl (BxF_cons rfl rfl rfl rfl rfl (VxL_d _) (Nat.le_refl _) BxF_nil)) (Nat.le_of_ble_eq_true rfl) (.cons .d .nil)
theorem c_termA (xs : List Sg) (hl : xs.length ≤ 1048576) (hgs : GoodS xs) (hx : ∀ g ∈ xs, g.x.size ≤ 32) : ∀ (n : Nat) (d : Int), 0 ≤ d → d ≤ 130 → TmC Tryz.prog 139 145 9 xs d n (termM xs n)
 | 0, d, h0, h1 => fun most s hs hb hn => by have := hs.hi; omega
 | n + 1, d, h0, h1 => fun most s hs hb hn => c_termS xs s hl hgs hx d n (termM xs n) (fun h => c_termA xs hl hgs hx n (d + 1) (by omega) h) (fun h => term_ok hx n (d + 1) (by omega) h) most hs hb h0 h1 hn
end Go.Proofs.YtjgliechbnommaaGreatDoor
