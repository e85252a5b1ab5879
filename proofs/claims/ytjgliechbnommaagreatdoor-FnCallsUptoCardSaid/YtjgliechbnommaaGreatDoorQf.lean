/- The engine and the contracts of the functions that the claim reaches (texts packed, part 6). -/
import Derived.Test.YtjgliechbnommaaGreatDoorQe
set_option linter.unusedVariables false
set_option linter.unusedSimpArgs false
namespace Go.Proofs.YtjgliechbnommaaGreatDoor
open Go.Eng
theorem tz145 : tyZero Tryz.prog 145 = some (some (.agg #[.slice none 0 0, .int .i64 0, .bool false, .int .i64 0, .slice none 0 0])) := by kernel_rfl
theorem tz27 : tyZero Tryz.prog 27 = some (some (.agg #[.slice none 0 0, .slice none 0 0])) := by kernel_rfl
theorem cl110 : Callable Tryz.prog 110 := Callable_of Tryz.func110 (by kernel_rfl) (by kernel_rfl)
theorem cl111 : Callable Tryz.prog 111 := Callable_of Tryz.func111 (by kernel_rfl) (by kernel_rfl)
theorem cl122 : Callable Tryz.prog 122 := Callable_of Tryz.func122 (by kernel_rfl) (by kernel_rfl)
theorem cl136 : Callable Tryz.prog 136 := Callable_of Tryz.func136 (by kernel_rfl) (by kernel_rfl)
theorem cl137 : Callable Tryz.prog 137 := Callable_of Tryz.func137 (by kernel_rfl) (by kernel_rfl)
theorem cl144 : Callable Tryz.prog 144 := Callable_of Tryz.func144 (by kernel_rfl) (by kernel_rfl)
theorem tb139 : tyBytes Tryz.prog 139 = some 48 := by kernel_rfl
theorem tpl145 : tyPlaces Tryz.prog 145 = some (layPlaces 0 [.one, .one, .one, .one, .one]) := by kernel_rfl
theorem tpl27 : tyPlaces Tryz.prog 27 = some (layPlaces 0 [.one, .one]) := by kernel_rfl
theorem zo27 : ZeroOf Tryz.prog 27 (Lay.st [.one, .one]) (.d (.agg [.one, .one] [.c (.slice none 0 0), .c (.slice none 0 0)])) := ⟨_, tz27, rfl, fun _ _ _ => VC_cells rfl⟩
set_option maxHeartbeats 4000000 in
set_option maxRecDepth 4000 in
theorem c_signsOf (t : ByteArray) (hs : t.size ≤ 3000) : PCall Tryz.prog 110 [.c (.string t)] (· = [.sl LSG (injGs (signsM t)), .c (.bool true)]) := by
 refine PCall_of (n := 62) Tryz.func110 rfl rfl (Nat.le_of_ble_eq_true rfl) fun C hdm hT0 => ?_
 have hT := hT0
 refine AC_seq fun K1 hK1 => ?_
 refine AC_region ?_
 refine AL_ev (Ev_assign) rfl ?_
 refine AL_ev (Ev_assign) rfl ?_
 refine AL_nil ?_
 refine hK1 _ _ _ ?_
 refine AC_seq fun K2 hK2 => ?_
 refine AC_region ?_
 refine AL_bV (Lay.st [.one, .one, .one, .one, .one]) rfl te119 ts139 tz139 rfl rfl (by decide) (by decide) (by rfl) _ rfl rfl ?_
 refine AL_ev (Ev_assign) rfl ?_
 refine AL_nil ?_
 refine hK2 _ _ _ ?_
 refine AC_seq fun K3 hK3 => ?_
 refine AC_seq fun K4 hK4 => ?_
 refine AC_region ?_
 refine AL_ev (Ev_move) rfl ?_
 refine AL_ev (Ev_len_str tstr9 rfl) rfl ?_
 refine AL_ev (Ev_gtr rfl rfl) rfl ?_
 refine AL_nil ?_
 refine hK4 _ _ _ ?_
 refine AC_cond rfl (fun hc1 => ?_) (fun hc1 => ?_)
 ·exact absurd (of_decide_eq_true hc1) (by omega)
 ·refine AC_skip ?_
  refine hK3 _ _ _ ?_
  refine AC_seq fun K5 hK5 => ?_
  refine AC_region ?_
  refine AL_ev (Ev_assign) rfl ?_
  refine AL_nil ?_
  refine hK5 _ _ _ ?_
  refine AC_seq fun K6 hK6 => ?_
  refine AC_block ?_
  refine AC_loopS [0] (Nat × Nat × List Sg) (fun q => [(4, .ref LSG 0 0 q.2.2.length), (5, i64 ((q.2.1 : Nat) : Int))]) (fun q => [some ⟨139, LSG, (injGs q.2.2).map V.d⟩]) (fun q => q.1) (fun q => signsM t = q.2.2 ++ signsL t q.1 q.2.1 ∧ q.2.1 ≤ t.size ∧ t.size + 1 ≤ q.1 + q.2.1 ∧ q.2.2.length + q.1 ≤ t.size + 1) ((t.size + 1, 0, [])) ?_ ?_ ?_
  ·exact enterS [some 0] rfl rfl (BxTo_some rfl rfl rfl rfl .nil BxTo_nil) (SlTo_cons (Vw_refe rfl (by rfl)) (SlTo_cons (by exact .rd .d) (SlTo_cons (by exact .rd .d) SlTo_nil)))
  ·exact ⟨rfl, Nat.zero_le _, Nat.le_refl _, by show 0 + (t.size + 1) ≤ t.size + 1; omega⟩
  rintro ⟨m, j, xs⟩ ⟨hI, hj0, hj1, hj2⟩
  simp only at hI hj0 hj1 hj2
  refine AC_seq fun K7 hK7 => ?_
  refine AC_seq fun K8 hK8 => ?_
  refine AC_region ?_
  refine AL_ev (Ev_move) rfl ?_
  refine AL_ev (Ev_move) rfl ?_
  refine AL_ev (Ev_len_str tstr9 rfl) rfl ?_
  refine AL_ev (Ev_lss rfl rfl) rfl ?_
  refine AL_nil ?_
  refine hK8 _ _ _ ?_
  refine AC_cond rfl (fun hc2 => ?_) (fun hc2 => ?_)
  ·have hjl : j < t.size := Int.ofNat_lt.1 (of_decide_eq_true hc2)
   have hjbu : j < (bts t).length := by rw [bts_len]; omega
   refine Exists.elim (show ∃ v, (bts t)[j]? = some v from ⟨_, List.getElem?_eq_getElem hjbu⟩) fun u hu => ?_
   have hu2 := bts_get hu
   have hub := UInt8.toNat_lt u
   have hub := byteI_get hu
   refine Exists.elim (show ∃ m1, m = m1 + 1 from ⟨m - 1, by omega⟩) fun m1 hm1 => ?_
   subst hm1
   rw [signsL, if_neg (show ¬ t.size ≤ j by omega), hub] at hI
   refine AC_skip ?_
   refine hK7 _ _ _ ?_
   refine AC_block ?_
   refine AC_seq fun K9 hK9 => ?_
   refine AC_seq fun K10 hK10 => ?_
   refine AC_region ?_
   refine AL_ev (Ev_move) rfl ?_
   refine AL_ev (Ev_move) rfl ?_
   refine AL_ev (Ev_ix_str tstr9 rfl rfl (by omega) (by assumption)) rfl ?_
   refine AL_fcall0 hT rfl cl135 (c_blank (u.toNat : Int)) rfl rfl ?_
   refine AL_nil ?_
   refine hK10 _ _ _ ?_
   refine AC_cond rfl (fun hc3 => ?_) (fun hc3 => ?_)
   ·rw [if_pos hc3] at hI
    refine AC_seq fun K11 hK11 => ?_
    refine AC_region ?_
    refine AL_ev (Ev_move) rfl ?_
    refine AL_ev (Ev_add rfl rfl _ (wrap_id (by omega) (by (simp; omega)))) rfl ?_
    refine AL_ev (Ev_assign) rfl ?_
    refine AL_nil ?_
    refine hK11 _ _ _ ?_
    refine AC_exit ?_
    refine closeS (m1, j + 1, xs) [some 0] rfl rfl (Nat.lt_succ_self _) ⟨hI, hjl, by show t.size + 1 ≤ m1 + (j + 1); omega, by show xs.length + m1 ≤ t.size + 1; omega⟩ (BxTo_some rfl rfl rfl rfl (VwL_d _) BxTo_nil) (SlTo_cons (Vw_refe rfl (by rfl)) (SlTo_cons (by exact .rd .d) (SlTo_cons (by exact .rd .d) SlTo_nil)))
   ·rw [if_neg (by rw [hc3]; decide)] at hI
    refine AC_skip ?_
    refine hK9 _ _ _ ?_
    refine AC_seq fun K12 hK12 => ?_
    refine AC_seq fun K13 hK13 => ?_
    refine AC_region ?_
    refine AL_ev (Ev_move) rfl ?_
    refine AL_ev (Ev_move) rfl ?_
    refine AL_ev (Ev_ix_str tstr9 rfl rfl (by omega) (by assumption)) rfl ?_
    refine AL_ev (Ev_eql rfl rfl) rfl ?_
    refine AL_nil ?_
    refine hK13 _ _ _ ?_
    refine AC_cond rfl (fun hc4 => ?_) (fun hc4 => ?_)
    ·have h37 : (u.toNat : Int) = 37 := of_decide_eq_true hc4
     rw [if_pos h37] at hI
     have hr1 := runL_pos (p := (fun v => !decide (v = 10))) hu (by simp [h37])
     refine AC_seq fun K14 hK14 => ?_
     refine AC_block ?_
     refine AC_loopS [0, 4] (Nat) (fun k => [(5, i64 ((k : Nat) : Int))]) (fun _ => [some ⟨139, LSG, (injGs xs).map V.d⟩]) (fun k => t.size - k) (fun k => j ≤ k ∧ k ≤ t.size ∧ j + runL (fun v => !decide (v = 10)) ((bts t).drop j) = k + runL (fun v => !decide (v = 10)) ((bts t).drop k)) (j) ?_ ?_ ?_
     ·exact enterS [some 0] rfl rfl (BxTo_some rfl rfl rfl rfl (VwL_d _) BxTo_nil) (SlTo_cons (by exact .rd .d) (SlTo_cons (by exact .rd .d) (SlTo_cons (by exact .ref rfl) SlTo_nil)))
     ·exact ⟨Nat.le_refl _, by omega, rfl⟩
     rintro k ⟨hk0, hk1, hJ⟩
     refine AC_seq fun K15 hK15 => ?_
     refine AC_seq fun K16 hK16 => ?_
     refine AC_region ?_
     refine AL_ev (Ev_move) rfl ?_
     refine AL_ev (Ev_move) rfl ?_
     refine AL_ev (Ev_len_str tstr9 rfl) rfl ?_
     refine AL_ev (Ev_lss rfl rfl) rfl ?_
     refine AL_ev (Ev_move) rfl ?_
     refine AL_bool 31 rfl (fun hg5 => ?_) (fun hg5 => ?_)
     ·have hkl : k < t.size := by have := of_decide_eq_true hg5; omega
      have hjbv : k < (bts t).length := by rw [bts_len]; omega
      refine Exists.elim (show ∃ v, (bts t)[k]? = some v from ⟨_, List.getElem?_eq_getElem hjbv⟩) fun v hv => ?_
      have hv2 := bts_get hv
      have hvb := UInt8.toNat_lt v
      have hdr := drop_get hv
      refine AL_guard_t rfl rfl rfl ?_
      refine AL_ev (Ev_move) rfl ?_
      refine AL_guard_t rfl rfl rfl ?_
      refine AL_ev (Ev_move) rfl ?_
      refine AL_guard_t rfl rfl rfl ?_
      refine AL_ev (Ev_ix_str tstr9 rfl rfl (by omega) (by assumption)) rfl ?_
      refine AL_guard_t rfl rfl rfl ?_
      refine AL_ev (Ev_neq rfl rfl) rfl ?_
      refine AL_ev (Ev_pick rfl) rfl ?_
      refine AL_nil ?_
      refine hK16 _ _ _ ?_
      refine AC_cond rfl (fun hc6 => ?_) (fun hc6 => ?_)
      ·refine AC_skip ?_
       refine hK15 _ _ _ ?_
       refine AC_block ?_
       refine AC_region ?_
       refine AL_ev (Ev_move) rfl ?_
       refine AL_ev (Ev_add rfl rfl _ (wrap_id (by omega) (by omega))) rfl ?_
       refine AL_ev (Ev_assign) rfl ?_
       refine AL_nil ?_
       refine closeS (k + 1) [some 0] rfl rfl (by show t.size - (k + 1) < t.size - k; omega) ⟨by omega, by omega, by rw [hJ, hdr]; simp_all [runL]; omega⟩ (BxTo_some rfl rfl rfl rfl (VwL_d _) BxTo_nil) (SlTo_cons (by exact .rd .d) (SlTo_cons (by exact .rd .d) (SlTo_cons (by exact .ref rfl) SlTo_nil)))
      ·have hJ2 : j + runL (fun v => !decide (v = 10)) ((bts t).drop j) = k := by rw [hJ, hdr]; simp_all [runL]
       refine AC_exit ?_
       refine hK14 _ _ _ ?_
       refine AC_exit ?_
       rw [hJ2] at hI
       refine closeS (m1, k, xs) [some 0] rfl rfl (Nat.lt_succ_self _) ⟨hI, hk1, by show t.size + 1 ≤ m1 + k; omega, by show xs.length + m1 ≤ t.size + 1; omega⟩ (BxTo_some rfl rfl rfl rfl (VwL_d _) BxTo_nil) (SlTo_cons (Vw_refe rfl (by rfl)) (SlTo_cons (by exact .rd .d) (SlTo_cons (by exact .rd .d) SlTo_nil)))
     ·have hge : t.size ≤ k := by have := of_decide_eq_false hg5; omega
      have hJ2 : j + runL (fun v => !decide (v = 10)) ((bts t).drop j) = k := by rw [hJ, List.drop_eq_nil_of_le (by simp; omega)]; rfl
      refine AL_guard_f rfl rfl rfl rfl ?_
      refine AL_guard_f rfl rfl rfl rfl ?_
      refine AL_guard_f rfl rfl rfl rfl ?_
      refine AL_guard_f rfl rfl rfl rfl ?_
      refine AL_ev (Ev_pick rfl) rfl ?_
      refine AL_nil ?_
      refine hK16 _ _ _ ?_
      refine AC_cond_f rfl ?_
      refine AC_exit ?_
      refine hK14 _ _ _ ?_
      refine AC_exit ?_
      rw [hJ2] at hI
      refine closeS (m1, k, xs) [some 0] rfl rfl (Nat.lt_succ_self _) ⟨hI, hk1, by show t.size + 1 ≤ m1 + k; omega, by show xs.length + m1 ≤ t.size + 1; omega⟩ (BxTo_some rfl rfl rfl rfl (VwL_d _) BxTo_nil) (SlTo_cons (Vw_refe rfl (by rfl)) (SlTo_cons (by exact .rd .d) (SlTo_cons (by exact .rd .d) SlTo_nil)))
    ·have h37 : ¬ (u.toNat : Int) = 37 := of_decide_eq_false hc4
     rw [if_neg h37] at hI
     refine AC_skip ?_
     refine hK12 _ _ _ ?_
     refine AC_seq fun K17 hK17 => ?_
     refine AC_region ?_
     refine AL_ev (Ev_move) rfl ?_
     refine AL_ev (Ev_move) rfl ?_
     refine AL_fcall0 hT rfl cl136 (c_sign t j u (by omega) hu) rfl rfl ?_
     refine AL_ev (Ev_move) rfl ?_
     refine AL_ev (Ev_extract rfl rfl) rfl ?_
     refine AL_ev (Ev_extract rfl rfl) rfl ?_
     refine AL_alloc zo139 _ rfl rfl ?_
     refine AL_store rfl (nf rfl) rfl rfl rfl rfl rfl rfl (by rfl) ts139 rfl rfl ?_
     refine AL_ev (Ev_assign) rfl ?_
     refine AL_nil ?_
     refine hK17 _ _ _ ?_
     refine AC_seq fun K18 hK18 => ?_
     refine AC_region ?_
     refine AL_ev (Ev_move) rfl ?_
     refine AL_ev (Ev_move) rfl ?_
     refine AL_ev (Ev_len_str tstr9 rfl) rfl ?_
     refine AL_ev (Ev_lss rfl rfl) rfl ?_
     refine AL_ev (Ev_move) rfl ?_
     refine AL_bool 49 rfl (fun hg7 => ?_) (fun hg7 => ?_)
     ·have hel : (signM t j).2 < t.size := by have := of_decide_eq_true hg7; omega
      have hjz : (signM t j).2 < (bts t).length := by rw [bts_len]; omega
      refine Exists.elim (show ∃ v, (bts t)[(signM t j).2]? = some v from ⟨_, List.getElem?_eq_getElem hjz⟩) fun z hz => ?_
      have hz2 := bts_get hz
      have hzb := UInt8.toNat_lt z
      have hzb := byteI_get hz
      refine Exists.elim (show ∃ b : Bool, b = decide ((z.toNat : Int) = 40) from ⟨_, rfl⟩) fun bq hbq => ?_
      have hq := signM_ok hjl
      have hB : (decide ((signM t j).2 < t.size) && decide (byteI t (signM t j).2 = 40)) = bq := by rw [hbq, hzb]; simp [hel]
      have hI3 : signsM t = xs ++ ({ (signM t j).1 with n := bq } :: signsL t m1 (signM t j).2) := by rw [hI, ← hB]
      refine AL_guard_t rfl rfl rfl ?_
      refine AL_ev (Ev_move) rfl ?_
      refine AL_guard_t rfl rfl rfl ?_
      refine AL_ev (Ev_move) rfl ?_
      refine AL_guard_t rfl rfl rfl ?_
      refine AL_ev (Ev_ix_str tstr9 rfl rfl (by omega) (by assumption)) rfl ?_
      refine AL_guard_t rfl rfl rfl ?_
      refine AL_ev (Ev_eql rfl rfl) rfl ?_
      refine AL_ev (Ev_pick rfl) rfl ?_
      refine AL_ev (Ev_fa_ptr rfl fa139_4 rfl rfl) rfl ?_
      refine AL_store rfl (nf rfl) rfl rfl rfl rfl rfl rfl (by rfl) ts4 rfl rfl ?_
      refine AL_nil ?_
      refine hK18 _ _ _ ?_
      refine AC_seq fun K19 hK19 => ?_
      refine AC_wk (Wk_to [some 0, some 1] [(0, .d (.c (.string t))), (4, .ref LSG 0 0 xs.length), (6, .ptr LSG 1 0 []), (7, i64 (((signM t j).2 : Nat) : Int))] [some ⟨139, LSG, (injGs xs).map V.d⟩, some ⟨139, LSG, [.d (injG { (signM t j).1 with n := bq })]⟩] rfl rfl (BxTo_some rfl rfl rfl rfl (VwL_d _) (BxTo_some rfl rfl rfl rfl (.cons (.rd (.agg (.cons .d (.cons .d (.cons .d (.cons .d (.cons (by rw [hbq]; exact .d) .nil))))))) .nil) BxTo_nil)) (SlTo_cons (by exact .rd .d) (SlTo_cons (by exact .ref rfl) (SlTo_cons (by exact .ptr rfl) (SlTo_cons (by exact .rd .d) SlTo_nil)))) ?_)
      refine AC_region ?_
      refine AL_ev (Ev_move) rfl ?_
      refine AL_ev (Ev_load_ptr rfl rfl rfl rfl rfl rfl ts139 ta139 (by rfl) (by intro h; cases h)) rfl ?_
      refine AL_bD (Lay.st [.one, .one, .one, .one, .one]) rfl te119 ts139 tz139 rfl rfl (by decide) (by decide) (by rfl) rfl ?_
      refine AL_append rfl rfl rfl te119 ts139 tz139 rfl tb139 (by decide) (by decide) rfl (by (simp; done)) (Src_sl rfl) (by simp only [lim]; (simp; omega)) _ rfl rfl ?_
      refine AL_ev (Ev_assign) rfl ?_
      refine AL_nil ?_
      refine hK19 _ _ _ ?_
      refine AC_region ?_
      refine AL_ev (Ev_move) rfl ?_
      refine AL_ev (Ev_assign) rfl ?_
      refine AL_nil ?_
      refine closeS (m1, (signM t j).2, xs ++ [{ (signM t j).1 with n := bq }]) [some 2] rfl rfl (Nat.lt_succ_self _) ⟨by show signsM t = (xs ++ [_]) ++ signsL t m1 (signM t j).2; rw [hI3, List.append_assoc]; rfl, hq.le, by show t.size + 1 ≤ m1 + (signM t j).2; have := hq.lt; omega, by show (xs ++ [_]).length + m1 ≤ t.size + 1; simp; omega⟩ (BxTo_some rfl rfl rfl rfl (VwL_app (by simp [injGs])) BxTo_nil) (SlTo_cons (Vw_refe rfl (by simp)) (SlTo_cons (by exact .rd .d) (SlTo_cons (by exact .rd .d) SlTo_nil)))
     ·have hel : ¬ (signM t j).2 < t.size := by have := of_decide_eq_false hg7; omega
      refine Exists.elim (show ∃ b : Bool, b = false from ⟨_, rfl⟩) fun bq hbq => ?_
      have hq := signM_ok hjl
      have hB : (decide ((signM t j).2 < t.size) && decide (byteI t (signM t j).2 = 40)) = bq := by rw [hbq]; simp [hel]
      have hI3 : signsM t = xs ++ ({ (signM t j).1 with n := bq } :: signsL t m1 (signM t j).2) := by rw [hI, ← hB]
      refine AL_guard_f rfl rfl rfl rfl ?_
      refine AL_guard_f rfl rfl rfl rfl ?_
      refine AL_guard_f rfl rfl rfl rfl ?_
      refine AL_guard_f rfl rfl rfl rfl ?_
      refine AL_ev (Ev_pick rfl) rfl ?_
      refine AL_ev (Ev_fa_ptr rfl fa139_4 rfl rfl) rfl ?_
      refine AL_store rfl (nf rfl) rfl rfl rfl rfl rfl rfl (by rfl) ts4 rfl rfl ?_
      refine AL_nil ?_
      refine hK18 _ _ _ ?_
      refine AC_seq fun K20 hK20 => ?_
      refine AC_wk (Wk_to [some 0, some 1] [(0, .d (.c (.string t))), (4, .ref LSG 0 0 xs.length), (6, .ptr LSG 1 0 []), (7, i64 (((signM t j).2 : Nat) : Int))] [some ⟨139, LSG, (injGs xs).map V.d⟩, some ⟨139, LSG, [.d (injG { (signM t j).1 with n := bq })]⟩] rfl rfl (BxTo_some rfl rfl rfl rfl (VwL_d _) (BxTo_some rfl rfl rfl rfl (.cons (.rd (.agg (.cons .d (.cons .d (.cons .d (.cons .d (.cons (by rw [hbq]; exact .d) .nil))))))) .nil) BxTo_nil)) (SlTo_cons (by exact .rd .d) (SlTo_cons (by exact .ref rfl) (SlTo_cons (by exact .ptr rfl) (SlTo_cons (by exact .rd .d) SlTo_nil)))) ?_)
      refine AC_region ?_
      refine AL_ev (Ev_move) rfl ?_
      refine AL_ev (Ev_load_ptr rfl rfl rfl rfl rfl rfl ts139 ta139 (by rfl) (by intro h; cases h)) rfl ?_
      refine AL_bD (Lay.st [.one, .one, .one, .one, .one]) rfl te119 ts139 tz139 rfl rfl (by decide) (by decide) (by rfl) rfl ?_
      refine AL_append rfl rfl rfl te119 ts139 tz139 rfl tb139 (by decide) (by decide) rfl (by (simp; done)) (Src_sl rfl) (by simp only [lim]; (simp; omega)) _ rfl rfl ?_
      refine AL_ev (Ev_assign) rfl ?_
      refine AL_nil ?_
      refine hK20 _ _ _ ?_
      refine AC_region ?_
      refine AL_ev (Ev_move) rfl ?_
      refine AL_ev (Ev_assign) rfl ?_
      refine AL_nil ?_
      refine closeS (m1, (signM t j).2, xs ++ [{ (signM t j).1 with n := bq }]) [some 2] rfl rfl (Nat.lt_succ_self _) ⟨by show signsM t = (xs ++ [_]) ++ signsL t m1 (signM t j).2; rw [hI3, List.append_assoc]; rfl, hq.le, by show t.size + 1 ≤ m1 + (signM t j).2; have := hq.lt; omega, by show (xs ++ [_]).length + m1 ≤ t.size + 1; simp; omega⟩ (BxTo_some rfl rfl rfl rfl (VwL_app (by simp [injGs])) BxTo_nil) (SlTo_cons (Vw_refe rfl (by simp)) (SlTo_cons (by exact .rd .d) (SlTo_cons (by exact .rd .d) SlTo_nil)))
  ·have hge : t.size ≤ j := Nat.le_of_not_lt fun h => of_decide_eq_false hc2 (Int.ofNat_lt.2 h)
   have hI2 : signsM t = xs := by rw [hI]; cases m with | zero => simp [signsL] | succ m => rw [signsL, if_pos hge, List.append_nil]
   refine AC_exit ?_
   refine hK6 _ _ _ ?_
   refine AC_seq fun K21 hK21 => ?_
   refine AC_region ?_
   refine AL_ev (Ev_move) rfl ?_
   refine AL_ev (Ev_assign) rfl ?_
   refine AL_ev (Ev_assign) rfl ?_
   refine AL_nil ?_
   refine hK21 _ _ _ ?_
   refine AC_ret ?_
   exact ret_ok hdm (.tmp rfl rfl (.tmp rfl rfl .nil)) (.cons (.ref trivial rfl rfl (by simp) (ReadsL_d _)) (.cons .d .nil)) (by rw [hI2])
set_option maxHeartbeats 1000000 in
set_option maxRecDepth 4000 in
theorem c_behind (xs : List Sg) (hl : xs.length ≤ 1048576) : PCall Tryz.prog 137 [.sl LSG (injGs xs), .c (.int .i64 0)] (· = [.c (.int .i64 ((behindL xs 0 : Nat) : Int))]) := by
 refine PCall_of (n := 23) Tryz.func137 rfl rfl (Nat.le_of_ble_eq_true rfl) fun C hdm hT0 => ?_
 have hT := hT0
 refine AC_seq fun K1 hK1 => ?_
 refine AC_region ?_
 refine AL_ev (Ev_assign) rfl ?_
 refine AL_nil ?_
 refine hK1 _ _ _ ?_
 refine AC_seq fun K2 hK2 => ?_
 refine AC_seq fun K3 hK3 => ?_
 refine AC_region ?_
 refine AL_ev (Ev_move) rfl ?_
 refine AL_ev (Ev_lss rfl rfl) rfl ?_
 refine AL_nil ?_
 refine hK3 _ _ _ ?_
 refine AC_cond rfl (fun hc1 => ?_) (fun hc1 => ?_)
 ·exact absurd (of_decide_eq_true hc1) (by decide)
 ·refine AC_skip ?_
  refine hK2 _ _ _ ?_
  refine AC_seq fun K4 hK4 => ?_
  refine AC_block ?_
  refine AC_loopS [0] (Nat) (fun j => [(1, i64 ((j : Nat) : Int))]) (fun _ => []) (fun j => xs.length - j) (fun j => j ≤ xs.length ∧ behindL xs 0 = behindL (xs.drop j) j) (0) ?_ ?_ ?_
  ·exact enterS [] rfl rfl BxTo_nil (SlTo_cons (by exact .rd .d) (SlTo_cons (by exact .rd .d) SlTo_nil))
  ·exact ⟨Nat.zero_le _, rfl⟩
  rintro j ⟨hj0, hI⟩
  refine AC_seq fun K5 hK5 => ?_
  refine AC_seq fun K6 hK6 => ?_
  refine AC_region ?_
  refine AL_ev (Ev_move) rfl ?_
  refine AL_ev (Ev_move) rfl ?_
  refine AL_lim (x := (Operand.tmp 8)) rfl fun hl1 => ?_
  refine AL_ev (Ev_len_sl te119 rfl) rfl ?_
  refine AL_ev (Ev_lss rfl rfl) rfl ?_
  refine AL_nil ?_
  refine hK6 _ _ _ ?_
  refine AC_cond rfl (fun hc2 => ?_) (fun hc2 => ?_)
  ·simp only [injGs_length] at hc2
   have hlt : j < xs.length := Int.ofNat_lt.1 (of_decide_eq_true hc2)
   refine Exists.elim (show ∃ v, xs[j]? = some v from ⟨_, List.getElem?_eq_getElem hlt⟩) fun g hg => ?_
   have hdr := drop_get hg
   have hg3 : (injGs xs)[((((j : Nat) : Int) + 1) - 1).toNat]? = some (injG g) := by rw [show ((((j : Nat) : Int) + 1) - 1).toNat = j by omega]; simpa using injGs_get hg
   refine AC_skip ?_
   refine hK5 _ _ _ ?_
   refine AC_block ?_
   refine AC_seq fun K7 hK7 => ?_
   refine AC_region ?_
   refine AL_ev (Ev_move) rfl ?_
   refine AL_ev (Ev_add rfl rfl _ (wrap_id (by omega) (by omega))) rfl ?_
   refine AL_ev (Ev_assign) rfl ?_
   refine AL_nil ?_
   refine hK7 _ _ _ ?_
   refine AC_seq fun K8 hK8 => ?_
   refine AC_region ?_
   refine AL_ev (Ev_move) rfl ?_
   refine AL_ev (Ev_move) rfl ?_
   refine AL_ev (Ev_sub rfl rfl _ (wrap_id (by omega) (by omega))) rfl ?_
   refine AL_ev (Ev_ix_sl rfl rfl te119 ts139 (by omega) (by assumption)) rfl ?_
   refine AL_ev (Ev_fa_rp rfl fa139_0 rfl rfl) rfl ?_
   refine AL_ev (Ev_load_rp rfl rfl rfl ts3 ta3 rfl (fun _ => rfl)) rfl ?_
   refine AL_ev (Ev_eql rfl rfl) rfl ?_
   refine AL_nil ?_
   refine hK8 _ _ _ ?_
   refine AC_cond rfl (fun hc3 => ?_) (fun hc3 => ?_)
   ·have hk : g.k = 5 := of_decide_eq_true hc3
    have hI2 : behindL xs 0 = j + 1 := by rw [hI, hdr, behindL, if_pos hk]
    refine AC_seq fun K9 hK9 => ?_
    refine AC_region ?_
    refine AL_ev (Ev_move) rfl ?_
    refine AL_ev (Ev_assign) rfl ?_
    refine AL_nil ?_
    refine hK9 _ _ _ ?_
    refine AC_ret ?_
    refine ret_ok hdm (.tmp rfl rfl .nil) (.cons .d .nil) ?_
    rw [hI2]; rfl
   ·have hk : ¬ g.k = 5 := of_decide_eq_false hc3
    refine AC_skip ?_
    refine closeS (j + 1) [] rfl rfl (by show xs.length - (j + 1) < xs.length - j; omega) ⟨hlt, by rw [hI, hdr, behindL, if_neg hk]⟩ BxTo_nil (SlTo_cons (by exact .rd .d) (SlTo_cons (by exact .rd .d) SlTo_nil))
  ·simp only [injGs_length] at hc2
   have hge : j = xs.length := by have : ¬ j < xs.length := fun h => of_decide_eq_false hc2 (Int.ofNat_lt.2 h)
                                  omega
   have hI2 : behindL xs 0 = xs.length := by rw [hI, hge, List.drop_length]; rfl
   refine AC_exit ?_
   refine hK4 _ _ _ ?_
   refine AC_seq fun K10 hK10 => ?_
   refine AC_region ?_
   refine AL_ev (Ev_move) rfl ?_
   refine AL_lim (x := (Operand.tmp 21)) rfl fun hl2 => ?_
   refine AL_ev (Ev_len_sl te119 rfl) rfl ?_
   refine AL_ev (Ev_assign) rfl ?_
   refine AL_nil ?_
   refine hK10 _ _ _ ?_
   refine AC_ret ?_
   refine ret_ok hdm (.tmp rfl rfl .nil) (.cons .d .nil) ?_
   rw [hI2]; simp
set_option maxHeartbeats 4000000 in
set_option maxRecDepth 4000 in
theorem c_readSigns (xs : List Sg) (hl : xs.length ≤ 1048576) (hgs : GoodS xs) (hx : ∀ g ∈ xs, g.x.size ≤ 32) : PCall Tryz.prog 111 [.sl LSG (injGs xs), .c (.int .i64 0)] (fun ds => ∃ e : D, ds = [inj (readS xs).1, e, .c (.int .i64 (readS xs).2.1), .c (.bool (readS xs).2.2)]) := by
 have hok0 : Okr xs 0 ⟨0, false, 0, []⟩ := ⟨Nat.zero_le _, Nat.le_refl _, Int.le_refl _, by decide, fun _ => rfl⟩
 refine PCall_of (n := 52) Tryz.func111 rfl rfl (Nat.le_of_ble_eq_true rfl) fun C hdm hT0 => ?_
 have hT := hT0
 refine AC_seq fun K1 hK1 => ?_
 refine AC_region ?_
 refine AL_alloc zo41 _ rfl rfl ?_
 refine AL_ev (Ev_assign) rfl ?_
 refine AL_ev (Ev_assign) rfl ?_
 refine AL_ev (Ev_assign) rfl ?_
 refine AL_nil ?_
 refine hK1 _ _ _ ?_
 refine AC_seq fun K2 hK2 => ?_
 refine AC_region ?_
 refine AL_ev (Ev_move) rfl ?_
 refine AL_ev (Ev_move) rfl ?_
 refine AL_fcall0 hT rfl cl137 (c_behind xs hl) rfl rfl ?_
 refine AL_ev (Ev_assign) rfl ?_
 refine AL_nil ?_
 refine hK2 _ _ _ ?_
 refine AC_seq fun K3 hK3 => ?_
 refine AC_seq fun K4 hK4 => ?_
 refine AC_region ?_
 refine AL_ev (Ev_move) rfl ?_
 refine AL_ev (Ev_move) rfl ?_
 refine AL_lim (x := (Operand.tmp 15)) rfl fun hl1 => ?_
 refine AL_ev (Ev_len_sl te119 rfl) rfl ?_
 refine AL_ev (Ev_sub rfl rfl _ (wrap_id (by omega) (by omega))) rfl ?_
 refine AL_fcall0 hT rfl cl138 (c_l01In 0 0 (((injGs xs).length : Int) - 1)) rfl rfl ?_
 refine AL_ev (Ev_not rfl) rfl ?_
 refine AL_nil ?_
 refine hK4 _ _ _ ?_
 refine AC_cond rfl (fun hc1 => ?_) (fun hc1 => ?_)
 ·have h0 : xs.length = 0 := by simp [inB] at hc1; omega
  have hR : readS xs = (term0, ((behindL xs 0 : Nat) : Int), false) := by simp only [readS]; rw [if_pos h0]
  refine AC_seq fun K5 hK5 => ?_
  refine AC_region ?_
  refine AL_ev (Ev_build (fs := [.one, .one, .one, .one]) (zs := [.c (.int .i64 0), .c (.string ⟨#[]⟩), .c (.int .i64 0), .c (.slice none 0 0)]) tz41 rfl tpl41 .nil) rfl ?_
  refine AL_bD .one rfl te25 ts9 tz9 rfl rfl (by decide) (by decide) (by rfl) rfl ?_
  refine AL_ev (Ev_move) rfl ?_
  refine AL_store rfl (nf rfl) rfl rfl rfl rfl rfl rfl (by rfl) ts41 rfl rfl ?_
  refine AL_ev (Ev_assign) rfl ?_
  refine AL_ev (Ev_assign) rfl ?_
  refine AL_ev (Ev_assign) rfl ?_
  refine AL_nil ?_
  refine hK5 _ _ _ ?_
  refine AC_ret ?_
  exact ret_ok hdm (.cell rfl rfl rfl rfl rfl rfl ts41 ta41 (by rfl) (by intro h; cases h) (.tmp rfl rfl (.tmp rfl rfl (.tmp rfl rfl .nil)))) (.cons (.agg (.cons .d (.cons .d (.cons .d (.cons .nil .nil))))) (.cons .d (.cons .d (.cons .d .nil)))) ⟨_, by rw [hR]; rfl⟩
 ·have h0 : ¬ xs.length = 0 := by simp [inB] at hc1; omega
  refine AC_skip ?_
  refine hK3 _ _ _ ?_
  refine AC_seq fun K6 hK6 => ?_
  refine AC_region ?_
  refine AL_ev (Ev_move) rfl ?_
  refine AL_ev (Ev_move) rfl ?_
  refine AL_ev (Ev_build (fs := [.one, .one, .one, .one, .one]) (zs := [.c (.slice none 0 0), .c (.int .i64 0), .c (.bool false), .c (.int .i64 0), .c (.slice none 0 0)]) tz145 rfl tpl145 (.cons rfl rfl (by rfl) (.cons rfl rfl (by rfl) .nil))) rfl ?_
  refine AL_box (Lay.st [.one, .one, .one, .one, .one]) (nf rfl) rfl (by rfl) _ rfl rfl ?_
  refine AL_ev (Ev_assign) rfl ?_
  refine AL_nil ?_
  refine hK6 _ _ _ ?_
  refine AC_seq fun K7 hK7 => ?_
  refine AC_wk (Wk_nil_box 1 0 [4] 9 .one rfl rfl rfl rfl 2 rfl rfl ?_)
  refine AC_region ?_
  refine AL_ev (Ev_move) rfl ?_
  refine AL_rccS 9 hT 1 3 rfl cl139 (c_termA xs hl hgs hx (xs.length + 3) 0 (by omega) (by omega) 1200 ⟨0, false, 0, []⟩ hok0 rfl (by show xs.length + 2 ≤ xs.length + 3 + 0; omega)) rfl (.cons .d .nil) rfl rfl rfl rfl rfl (fun _ => (.cons .d .nil)) rfl ?_
  rintro ⟨s1, t1⟩ hz1
  have hp1 := term_ok hx (xs.length + 3) 0 (by omega) (by omega) 1200 ⟨0, false, 0, []⟩ hok0 rfl (by show xs.length + 2 ≤ xs.length + 3 + 0; omega)
  rw [← hz1] at hp1
  try simp only at hp1
  have hi1 := hp1.ok.hi
  have hb1 := hp1.bk
  try simp only at hb1
  have hbt : bulk t1 ≤ 1099511627776 := by omega
  refine AL_alloc zo41 _ rfl rfl ?_
  refine AL_store rfl (nf rfl) rfl rfl rfl rfl rfl rfl (by simp [Lay.len, Lay.lens]) ts41 rfl rfl ?_
  refine AL_nil ?_
  refine hK7 _ _ _ ?_
  refine AC_seq fun K8 hK8 => ?_
  refine AC_seq fun K9 hK9 => ?_
  refine AC_region ?_
  refine AL_ev (Ev_move) rfl ?_
  refine AL_qcall hT rfl cl140 (c_is xs (s1) 5 (⟨#[]⟩) (by omega)) (.cons (.rd (.ptr trivial rfl rfl rfl (.agg (.cons .d (.cons .d (.cons .d (.cons .d (.cons (.ref trivial rfl rfl (by simp) (ReadsL_d _)) .nil)))))))) (.cons (.rd .d) (.cons (.rd .d) .nil))) rfl ?_
  refine AL_ev (Ev_not rfl) rfl ?_
  refine AL_ev (Ev_move) rfl ?_
  refine AL_bool 32 rfl (fun hg2 => ?_) (fun hg2 => ?_)
  ·have hm : ¬ isM xs s1 5 ⟨#[]⟩ = true := by simpa using hg2
   have hR : readS xs = (term0, ((behindL xs 0 : Nat) : Int), false) := by simp only [readS]; rw [if_neg h0, ← hz1]; exact if_neg fun h => hm h.1
   refine AL_guard_f rfl rfl rfl rfl ?_
   refine AL_guard_f rfl rfl rfl rfl ?_
   refine AL_guard_f rfl rfl rfl rfl ?_
   refine AL_ev (Ev_pick rfl) rfl ?_
   refine AL_nil ?_
   refine hK9 _ _ _ ?_
   refine AC_cond_t rfl ?_
   refine AC_seq fun K10 hK10 => ?_
   refine AC_region ?_
   refine AL_ev (Ev_build (fs := [.one, .one, .one, .one]) (zs := [.c (.int .i64 0), .c (.string ⟨#[]⟩), .c (.int .i64 0), .c (.slice none 0 0)]) tz41 rfl tpl41 .nil) rfl ?_
   refine AL_bD .one rfl te25 ts9 tz9 rfl rfl (by decide) (by decide) (by rfl) rfl ?_
   refine AL_ev (Ev_move) rfl ?_
   refine AL_store rfl (nf rfl) rfl rfl rfl rfl rfl rfl (by rfl) ts41 rfl rfl ?_
   refine AL_ev (Ev_assign) rfl ?_
   refine AL_ev (Ev_assign) rfl ?_
   refine AL_ev (Ev_assign) rfl ?_
   refine AL_nil ?_
   refine hK10 _ _ _ ?_
   refine AC_ret ?_
   exact ret_ok hdm (.cell rfl rfl rfl rfl rfl rfl ts41 ta41 (by rfl) (by intro h; cases h) (.tmp rfl rfl (.tmp rfl rfl (.tmp rfl rfl .nil)))) (.cons (.agg (.cons .d (.cons .d (.cons .d (.cons .nil .nil))))) (.cons .d (.cons .d (.cons .d .nil)))) ⟨_, by rw [hR]; rfl⟩
  ·have hm : isM xs s1 5 ⟨#[]⟩ = true := by simpa using hg2
   refine AL_guard_t rfl rfl rfl ?_
   refine AL_ev (Ev_load_ptr rfl rfl rfl rfl rfl rfl ts41 ta41 (by simp) (by intro h; cases h)) rfl ?_
   refine AL_guard_t rfl rfl rfl ?_
   refine AL_fcall0 hT rfl cl64 (c_specTermOk t1 hbt) rfl rfl ?_
   refine AL_guard_t rfl rfl rfl ?_
   refine AL_ev (Ev_not rfl) rfl ?_
   refine AL_ev (Ev_pick rfl) rfl ?_
   refine AL_nil ?_
   refine hK9 _ _ _ ?_
   refine AC_cond rfl (fun hc3 => ?_) (fun hc3 => ?_)
   ·have hk : ¬ okT t1 = true := by simpa using hc3
    have hR : readS xs = (term0, ((behindL xs 0 : Nat) : Int), false) := by simp only [readS]; rw [if_neg h0, ← hz1]; exact if_neg fun h => hk h.2
    refine AC_seq fun K11 hK11 => ?_
    refine AC_region ?_
    refine AL_ev (Ev_build (fs := [.one, .one, .one, .one]) (zs := [.c (.int .i64 0), .c (.string ⟨#[]⟩), .c (.int .i64 0), .c (.slice none 0 0)]) tz41 rfl tpl41 .nil) rfl ?_
    refine AL_bD .one rfl te25 ts9 tz9 rfl rfl (by decide) (by decide) (by rfl) rfl ?_
    refine AL_ev (Ev_move) rfl ?_
    refine AL_store rfl (nf rfl) rfl rfl rfl rfl rfl rfl (by rfl) ts41 rfl rfl ?_
    refine AL_ev (Ev_assign) rfl ?_
    refine AL_ev (Ev_assign) rfl ?_
    refine AL_ev (Ev_assign) rfl ?_
    refine AL_nil ?_
    refine hK11 _ _ _ ?_
    refine AC_ret ?_
    exact ret_ok hdm (.cell rfl rfl rfl rfl rfl rfl ts41 ta41 (by rfl) (by intro h; cases h) (.tmp rfl rfl (.tmp rfl rfl (.tmp rfl rfl .nil)))) (.cons (.agg (.cons .d (.cons .d (.cons .d (.cons .nil .nil))))) (.cons .d (.cons .d (.cons .d .nil)))) ⟨_, by rw [hR]; rfl⟩
   ·have hk : okT t1 = true := by simpa using hc3
    have hR : readS xs = (t1, ((s1.i : Nat) : Int) + 1, true) := by simp only [readS]; rw [if_neg h0, ← hz1]; exact if_pos ⟨hm, hk⟩
    refine AC_skip ?_
    refine hK8 _ _ _ ?_
    refine AC_seq fun K12 hK12 => ?_
    have hnn1 := hp1.ok.hn
    refine AC_wk (Wk_to [some 0] [(4, .ptr LT 0 0 []), (9, .d (.rp LRD (injR xs s1) [])), (10, .d (.rp LT (inj t1) []))] [some ⟨41, LT, [.d zT]⟩] rfl rfl (BxTo_some rfl rfl rfl rfl (.cons (.rd .d) .nil) BxTo_nil) (SlTo_cons (.ptr rfl) (SlTo_cons (.rd (.ptr (srcFree rfl) rfl rfl rfl (.agg (.cons .d (.cons .d (.cons .d (.cons .d (.cons (.ref (srcFree rfl) rfl rfl (by simp) (ReadsL_d _)) .nil)))))))) (SlTo_cons (.rd (.ptr (srcFree rfl) rfl rfl rfl .d)) SlTo_nil))) ?_)
    refine AC_drawq hT follows [40, 45, 50] [0, 2, 3, 4, 5, 7, 8, 9, 10, 11, 1, 6, 12, 13, 14, 15] (by kernel_rfl) ?_
    refine DT_loadq rfl rfl rfl rfl ts41 ta41 (by simp) (by intro h; cases h) rfl ?_
    refine DT_ev rfl (EA_move) rfl ?_
    refine DT_ev rfl (EA_nilc_rp rfl) rfl ?_
    refine DT_ev rfl (EA_fa_rp rfl fa145_4 rfl rfl) rfl ?_
    refine DT_loadq rfl rfl rfl rfl ts25 ta25 rfl (fun _ => rfl) rfl ?_
    refine DT_ev rfl (EA_move) rfl ?_
    refine DT_ev rfl (EA_nilc_rp rfl) rfl ?_
    refine DT_ev rfl (EA_fa_rp rfl fa145_1 rfl rfl) rfl ?_
    refine DT_loadq rfl rfl rfl rfl ts3 ta3 rfl (fun _ => rfl) rfl ?_
    refine DT_ev rfl (EA_add rfl rfl _ (wrap_id (by omega) (by omega))) rfl ?_
    refine DT_bE .one rfl te25 ts9 rfl ?_
    refine DT_appendE rfl rfl rfl te25 ts9 tz9 tb9 (by decide) (by simp only [lim]; (simp; omega)) rfl ?_
    refine DT_store rfl rfl (nf rfl) rfl rfl rfl rfl rfl rfl (by simp [Lay.len, Lay.lens]) ts41 rfl rfl ?_
    refine DT_ev rfl (EA_assign) rfl ?_
    refine DT_ev rfl (EA_assign) rfl ?_
    refine DT_ev rfl (EA_assign) rfl ?_
    refine DTi.nil ?_
    refine hK12 _ _ _ ?_
    refine AC_ret ?_
    exact ret_ok hdm (.cell rfl rfl rfl rfl rfl rfl ts41 ta41 (by simp) (by intro h; cases h) (.tmp rfl rfl (.tmp rfl rfl (.tmp rfl rfl .nil)))) (.cons .d (.cons .d (.cons .d (.cons .d .nil)))) ⟨_, by rw [hR]⟩
set_option maxHeartbeats 1000000 in
set_option maxRecDepth 4000 in
theorem c_readTerm (t : ByteArray) (hs : t.size ≤ 3000) : PCall Tryz.prog 82 [.c (.string t)] (fun ds => ∃ e : D, ds = [inj (readM t).1, e, .c (.bool (readM t).2)]) := by
 have hsg := signs_good (t := t) (by omega)
 refine PCall_of (n := 35) Tryz.func82 rfl rfl (Nat.le_of_ble_eq_true rfl) fun C hdm hT0 => ?_
 have hT := hT0
 refine AC_seq fun K1 hK1 => ?_
 refine AC_region ?_
 refine AL_alloc zo41 _ rfl rfl ?_
 refine AL_ev (Ev_assign) rfl ?_
 refine AL_ev (Ev_assign) rfl ?_
 refine AL_nil ?_
 refine hK1 _ _ _ ?_
 refine AC_seq fun K2 hK2 => ?_
 refine AC_region ?_
 refine AL_ev (Ev_move) rfl ?_
 refine AL_fcall0 hT rfl cl110 (c_signsOf t hs) rfl rfl ?_
 refine AL_ev (Ev_move) rfl ?_
 refine AL_ev (Ev_extract rfl rfl) rfl ?_
 refine AL_ev (Ev_extract rfl rfl) rfl ?_
 refine AL_ev (Ev_assign) rfl ?_
 refine AL_ev (Ev_assign) rfl ?_
 refine AL_nil ?_
 refine hK2 _ _ _ ?_
 refine AC_seq fun K3 hK3 => ?_
 refine AC_region ?_
 refine AL_ev (Ev_move) rfl ?_
 refine AL_pcall0 hT rfl cl111 (c_readSigns (signsM t) hsg.1 hsg.2.1 hsg.2.2) rfl rfl ?_
 rintro _ ⟨e, rfl⟩
 refine AL_ev (Ev_move) rfl ?_
 refine AL_ev (Ev_extract rfl rfl) rfl ?_
 refine AL_ev (Ev_extract rfl rfl) rfl ?_
 refine AL_ev (Ev_extract rfl rfl) rfl ?_
 refine AL_ev (Ev_extract rfl rfl) rfl ?_
 refine AL_alloc zo41 _ rfl rfl ?_
 refine AL_store rfl (nf rfl) rfl rfl rfl rfl rfl rfl (by simp [Lay.len, Lay.lens]) ts41 rfl rfl ?_
 refine AL_ev (Ev_assign) rfl ?_
 refine AL_ev (Ev_assign) rfl ?_
 refine AL_ev (Ev_assign) rfl ?_
 refine AL_nil ?_
 refine hK3 _ _ _ ?_
 refine AC_seq fun K4 hK4 => ?_
 refine AC_seq fun K5 hK5 => ?_
 refine AC_region ?_
 refine AL_ev (Ev_move) rfl ?_
 refine AL_ev (Ev_not rfl) rfl ?_
 refine AL_ev (Ev_move) rfl ?_
 refine AL_bool 25 rfl (fun hg1 => ?_) (fun hg1 => ?_)
 ·have hR : readM t = (term0, false) := by rw [readM_eq]; exact if_neg fun h => by rw [h.1] at hg1; cases hg1
  refine AL_guard_f rfl rfl rfl rfl ?_
  refine AL_guard_f rfl rfl rfl rfl ?_
  refine AL_guard_f rfl rfl rfl rfl ?_
  refine AL_guard_f rfl rfl rfl rfl ?_
  refine AL_ev (Ev_pick rfl) rfl ?_
  refine AL_nil ?_
  refine hK5 _ _ _ ?_
  refine AC_cond_t rfl ?_
  refine AC_seq fun K6 hK6 => ?_
  refine AC_region ?_
  refine AL_ev (Ev_build (fs := [.one, .one, .one, .one]) (zs := [.c (.int .i64 0), .c (.string ⟨#[]⟩), .c (.int .i64 0), .c (.slice none 0 0)]) tz41 rfl tpl41 .nil) rfl ?_
  refine AL_bD .one rfl te25 ts9 tz9 rfl rfl (by decide) (by decide) (by rfl) rfl ?_
  refine AL_store rfl (nf rfl) rfl rfl rfl rfl rfl rfl (by rfl) ts41 rfl rfl ?_
  refine AL_ev (Ev_assign) rfl ?_
  refine AL_ev (Ev_assign) rfl ?_
  refine AL_nil ?_
  refine hK6 _ _ _ ?_
  refine AC_ret ?_
  exact ret_ok hdm (.cell rfl rfl rfl rfl rfl rfl ts41 ta41 (by rfl) (by intro h; cases h) (.tmp rfl rfl (.tmp rfl rfl .nil))) (.cons (.agg (.cons .d (.cons .d (.cons .d (.cons .nil .nil))))) (.cons .d (.cons .d .nil))) ⟨_, by rw [hR]; rfl⟩
 ·have hcc : (readS (signsM t)).2.2 = true := by simpa using hg1
  refine AL_guard_t rfl rfl rfl ?_
  refine AL_ev (Ev_move) rfl ?_
  refine AL_guard_t rfl rfl rfl ?_
  refine AL_ev (Ev_move) rfl ?_
  refine AL_guard_t rfl rfl rfl ?_
  refine AL_lim (x := (Operand.tmp 27)) rfl fun hl1 => ?_
  refine AL_ev (Ev_len_sl te119 rfl) rfl ?_
  refine AL_guard_t rfl rfl rfl ?_
  refine AL_ev (Ev_neq rfl rfl) rfl ?_
  refine AL_ev (Ev_pick rfl) rfl ?_
  refine AL_nil ?_
  refine hK5 _ _ _ ?_
  refine AC_cond rfl (fun hc2 => ?_) (fun hc2 => ?_)
  ·simp only [injGs_length] at hc2
   have hR : readM t = (term0, false) := by rw [readM_eq]; exact if_neg fun h => by simp [h.2] at hc2
   refine AC_seq fun K7 hK7 => ?_
   refine AC_region ?_
   refine AL_ev (Ev_build (fs := [.one, .one, .one, .one]) (zs := [.c (.int .i64 0), .c (.string ⟨#[]⟩), .c (.int .i64 0), .c (.slice none 0 0)]) tz41 rfl tpl41 .nil) rfl ?_
   refine AL_bD .one rfl te25 ts9 tz9 rfl rfl (by decide) (by decide) (by rfl) rfl ?_
   refine AL_store rfl (nf rfl) rfl rfl rfl rfl rfl rfl (by rfl) ts41 rfl rfl ?_
   refine AL_ev (Ev_assign) rfl ?_
   refine AL_ev (Ev_assign) rfl ?_
   refine AL_nil ?_
   refine hK7 _ _ _ ?_
   refine AC_ret ?_
   exact ret_ok hdm (.cell rfl rfl rfl rfl rfl rfl ts41 ta41 (by rfl) (by intro h; cases h) (.tmp rfl rfl (.tmp rfl rfl .nil))) (.cons (.agg (.cons .d (.cons .d (.cons .d (.cons .nil .nil))))) (.cons .d (.cons .d .nil))) ⟨_, by rw [hR]; rfl⟩
  ·simp only [injGs_length] at hc2
   have hR : readM t = ((readS (signsM t)).1, true) := by rw [readM_eq]; exact if_pos ⟨hcc, by simpa using hc2⟩
   refine AC_skip ?_
   refine hK4 _ _ _ ?_
   refine AC_seq fun K8 hK8 => ?_
   refine AC_region ?_
   refine AL_ev (Ev_load_ptr rfl rfl rfl rfl rfl rfl ts41 ta41 (by simp) (by intro h; cases h)) rfl ?_
   refine AL_ev (Ev_move) rfl ?_
   refine AL_store rfl (nf rfl) rfl rfl rfl rfl rfl rfl (by simp [Lay.len, Lay.lens]) ts41 rfl rfl ?_
   refine AL_ev (Ev_assign) rfl ?_
   refine AL_ev (Ev_assign) rfl ?_
   refine AL_nil ?_
   refine hK8 _ _ _ ?_
   refine AC_ret ?_
   exact ret_ok hdm (.cell rfl rfl rfl rfl rfl rfl ts41 ta41 (by simp) (by intro h; cases h) (.tmp rfl rfl (.tmp rfl rfl .nil))) (.cons .d (.cons .d (.cons .d .nil))) ⟨_, by rw [hR]⟩
set_option maxHeartbeats 1000000 in
set_option maxRecDepth 4000 in
theorem c_copy (cs : List Cl) (op : List ByteArray) (hl : cs.length ≤ 1048576) (ho : op.length ≤ 1048576) : PCall Tryz.prog 122 [injD ⟨cs, op⟩] (· = [injD ⟨cs, op⟩]) := by
 refine PCall_of (n := 12) Tryz.func122 rfl rfl (Nat.le_of_ble_eq_true rfl) fun C hdm hT0 => ?_
 have hT := hT0
 refine AC_seq fun K1 hK1 => ?_
 refine AC_region ?_
 refine AL_box (Lay.st [.one, .one]) (nf rfl) rfl (by rfl) _ rfl rfl ?_
 refine AL_alloc zo27 _ rfl rfl ?_
 refine AL_nil ?_
 refine hK1 _ _ _ ?_
 refine AC_seq fun K2 hK2 => ?_
 refine AC_wk (Wk_to [some 1] [(1, .d (.rp LD (injD ⟨cs, op⟩) [])), (2, .ptr LD 0 0 [])] [some ⟨27, LD, [.d zDb]⟩] rfl rfl (BxTo_some rfl rfl rfl rfl (.cons (.rd .d) .nil) BxTo_nil) (SlTo_cons (.rd (.ptr (srcFree rfl) rfl rfl rfl .d)) (SlTo_cons (.ptr rfl) SlTo_nil)) ?_)
 refine AC_drawq hT follows [5, 9] [1, 2, 5, 6, 0, 4, 3, 7, 8, 9] (by kernel_rfl) ?_
 refine DT_ev rfl (EA_fa_rp rfl fa27_0 rfl rfl) rfl ?_
 refine DT_loadq rfl rfl rfl rfl ts24 ta24 rfl (fun _ => rfl) rfl ?_
 refine DT_ev rfl (EA_fa_rp rfl fa27_1 rfl rfl) rfl ?_
 refine DT_loadq rfl rfl rfl rfl ts25 ta25 rfl (fun _ => rfl) rfl ?_
 refine DT_bE (Lay.st [(Lay.st [.one, .one, .one, .one]), (Lay.st [.one, .one, .one, .one]), .one]) rfl te24 ts54 rfl ?_
 refine DT_bE .one rfl te25 ts9 rfl ?_
 refine DT_appendE rfl rfl rfl te24 ts54 tz54 tb54 (by decide) (by simp only [lim]; (simp; omega)) rfl ?_
 refine DT_appendE rfl rfl rfl te25 ts9 tz9 tb9 (by decide) (by simp only [lim]; (simp; omega)) rfl ?_
 refine DT_ev rfl (EA_build (fs := [.one, .one]) (zs := [.c (.slice none 0 0), .c (.slice none 0 0)]) tz27 rfl tpl27 (.cons rfl rfl (by rfl) (.cons rfl rfl (by rfl) .nil))) rfl ?_
 refine DT_store rfl rfl (nf rfl) rfl rfl rfl rfl rfl rfl (by rfl) ts27 rfl rfl ?_
 refine DTi.nil ?_
 refine hK2 _ _ _ ?_
 refine AC_ret ?_
 exact ret_ok hdm (.cell rfl rfl rfl rfl rfl rfl ts27 ta27 (by rfl) (by intro h; cases h) .nil) (.cons (.agg (.cons .d (.cons .d .nil))) .nil) rfl
set_option maxHeartbeats 1000000 in
set_option maxRecDepth 4000 in
theorem c_copyO (cs : List Cl) (op : List ByteArray) (hl : cs.length ≤ 1048576) (ho : op.length ≤ 1048576) (hne : 0 < (injCs cs).length) : OwC Tryz.prog 122 [injD ⟨cs, op⟩] [.agg [.one, .one] [.ref LC 0 0 cs.length, .d (.sl .one (strs op))]] [⟨54, LC, (injCs cs).map V.d⟩] := by
 refine HCallX_of (n := 12) Tryz.func122 rfl rfl (Nat.le_of_ble_eq_true rfl) (Nat.le_refl 0) fun C0 o hT => ?_
 refine AC_seq fun K1 hK1 => ?_
 refine AC_region ?_
 refine AL_box (Lay.st [.one, .one]) (nf rfl) rfl (by rfl) _ rfl rfl ?_
 refine AL_alloc zo27 _ rfl rfl ?_
 refine AL_nil ?_
 refine hK1 _ _ _ ?_
 refine AC_seq fun K2 hK2 => ?_
 refine AC_wk (Wk_to [some 1] [(1, .d (.rp LD (injD ⟨cs, op⟩) [])), (2, .ptr LD 0 0 [])] [some ⟨27, LD, [.d zDb]⟩] rfl rfl (BxTo_some rfl rfl rfl rfl (.cons (.rd .d) .nil) BxTo_nil) (SlTo_cons (.rd (.ptr (srcFree rfl) rfl rfl rfl .d)) (SlTo_cons (.ptr rfl) SlTo_nil)) ?_)
 refine AC_drawq hT follows [5, 9] [1, 2, 5, 6, 0, 4, 3, 7, 8, 9] (by kernel_rfl) ?_
 refine DT_ev rfl (EA_fa_rp rfl fa27_0 rfl rfl) rfl ?_
 refine DT_loadq rfl rfl rfl rfl ts24 ta24 rfl (fun _ => rfl) rfl ?_
 refine DT_ev rfl (EA_fa_rp rfl fa27_1 rfl rfl) rfl ?_
 refine DT_loadq rfl rfl rfl rfl ts25 ta25 rfl (fun _ => rfl) rfl ?_
 refine DT_bE (Lay.st [(Lay.st [.one, .one, .one, .one]), (Lay.st [.one, .one, .one, .one]), .one]) rfl te24 ts54 rfl ?_
 refine DT_bE .one rfl te25 ts9 rfl ?_
 refine DT_appendO rfl rfl rfl (by assumption) te24 ts54 tz54 rfl tb54 (by decide) (by simp only [lim]; (simp; omega)) _ rfl rfl ?_
 refine DT_appendE rfl rfl rfl te25 ts9 tz9 tb9 (by decide) (by simp only [lim]; (simp; omega)) rfl ?_
 refine DT_ev rfl (EA_build (fs := [.one, .one]) (zs := [.c (.slice none 0 0), .c (.slice none 0 0)]) tz27 rfl tpl27 (.cons rfl rfl (by rfl) (.cons rfl rfl (by rfl) .nil))) rfl ?_
 refine DT_store rfl rfl (nf rfl) rfl rfl rfl rfl rfl rfl (by rfl) ts27 rfl rfl ?_
 refine DTi.nil ?_
 refine hK2 _ _ _ ?_
 refine AC_ret ?_
 exact retr_ok () trivial [1] (CExt.refl _) (.cell rfl rfl rfl rfl rfl rfl ts27 ta27 (by rfl) (by intro h; cases h) .nil) rfl rfl (BxF_cons rfl rfl rfl rfl rfl (VxL_d _) (Nat.zero_le _) BxF_nil) (Nat.zero_le _) (.cons (.agg (.cons (Vx_refe rfl (by simp)) (.cons .d .nil))) .nil)
set_option maxHeartbeats 1000000 in
set_option maxRecDepth 4000 in
theorem c_copyE (op : List ByteArray) (ho : op.length ≤ 1048576) : OwC Tryz.prog 122 [injD ⟨[], op⟩] [.agg [.one, .one] [.emp, .d (.sl .one (strs op))]] [] := by
 refine HCallX_of (n := 12) Tryz.func122 rfl rfl (Nat.le_of_ble_eq_true rfl) (Nat.le_refl 0) fun C0 o hT => ?_
 refine AC_seq fun K1 hK1 => ?_
 refine AC_region ?_
 refine AL_box (Lay.st [.one, .one]) (nf rfl) rfl (by rfl) _ rfl rfl ?_
 refine AL_alloc zo27 _ rfl rfl ?_
 refine AL_nil ?_
 refine hK1 _ _ _ ?_
 refine AC_seq fun K2 hK2 => ?_
 refine AC_wk (Wk_to [some 1] [(1, .d (.rp LD (injD ⟨[], op⟩) [])), (2, .ptr LD 0 0 [])] [some ⟨27, LD, [.d zDb]⟩] rfl rfl (BxTo_some rfl rfl rfl rfl (.cons (.rd .d) .nil) BxTo_nil) (SlTo_cons (.rd (.ptr (srcFree rfl) rfl rfl rfl .d)) (SlTo_cons (.ptr rfl) SlTo_nil)) ?_)
 refine AC_drawq hT follows [5, 9] [1, 2, 5, 6, 0, 4, 3, 7, 8, 9] (by kernel_rfl) ?_
 refine DT_ev rfl (EA_fa_rp rfl fa27_0 rfl rfl) rfl ?_
 refine DT_loadq rfl rfl rfl rfl ts24 ta24 rfl (fun _ => rfl) rfl ?_
 refine DT_ev rfl (EA_fa_rp rfl fa27_1 rfl rfl) rfl ?_
 refine DT_loadq rfl rfl rfl rfl ts25 ta25 rfl (fun _ => rfl) rfl ?_
 refine DT_bE (Lay.st [(Lay.st [.one, .one, .one, .one]), (Lay.st [.one, .one, .one, .one]), .one]) rfl te24 ts54 rfl ?_
 refine DT_bE .one rfl te25 ts9 rfl ?_
 refine DT_appendEE rfl rfl rfl te24 ts54 tz54 tb54 rfl ?_
 refine DT_appendE rfl rfl rfl te25 ts9 tz9 tb9 (by decide) (by simp only [lim]; (simp; omega)) rfl ?_
 refine DT_ev rfl (EA_build (fs := [.one, .one]) (zs := [.c (.slice none 0 0), .c (.slice none 0 0)]) tz27 rfl tpl27 (.cons rfl rfl (by rfl) (.cons rfl rfl (by rfl) .nil))) rfl ?_
 refine DT_store rfl rfl (nf rfl) rfl rfl rfl rfl rfl rfl (by rfl) ts27 rfl rfl ?_
 refine DTi.nil ?_
 refine hK2 _ _ _ ?_
 refine AC_ret ?_
 exact retr_ok () trivial [] (CExt.refl _) (.cell rfl rfl rfl rfl rfl rfl ts27 ta27 (by rfl) (by intro h; cases h) .nil) rfl rfl BxF_nil (Nat.zero_le _) (.cons (.agg (.cons .emp (.cons .d .nil))) .nil)
set_option maxHeartbeats 1000000 in
set_option maxRecDepth 4000 in
theorem c_addedO (cs : List Cl) (op : List ByteArray) (hl : cs.length ≤ 1048576) (ho : op.length ≤ 1048576) (hne : 0 < (injCs cs).length) (c : Cl) (hb : bulkD ⟨cs ++ [c], op⟩ ≤ 1099511627775) : PCall Tryz.prog 114 [injD ⟨cs, op⟩, injC c] (· = [injD (addM ⟨cs, op⟩ c).1, .c (.bool (addM ⟨cs, op⟩ c).2)]) := by
 refine PCall_of (n := 21) Tryz.func114 rfl rfl (Nat.le_of_ble_eq_true rfl) fun C hdm hT0 => ?_
 have hT := hT0
 refine AC_seq fun K1 hK1 => ?_
 refine AC_region ?_
 refine AL_box (Lay.st [.one, .one]) (nf rfl) rfl (by rfl) _ rfl rfl ?_
 refine AL_box (Lay.st [(Lay.st [.one, .one, .one, .one]), (Lay.st [.one, .one, .one, .one]), .one]) (nf rfl) rfl (by rfl) _ rfl rfl ?_
 refine AL_alloc zo27 _ rfl rfl ?_
 refine AL_ev (Ev_assign) rfl ?_
 refine AL_nil ?_
 refine hK1 _ _ _ ?_
 refine AC_seq fun K2 hK2 => ?_
 refine AC_region ?_
 refine AL_ev (Ev_load_ptr rfl rfl rfl rfl rfl rfl ts27 ta27 (by rfl) (by intro h; cases h)) rfl ?_
 refine AL_owc hT rfl cl122 (c_copyO cs op hl ho hne) rfl 3 rfl [.agg [.one, .one] [.ref LC 3 0 cs.length, .d (.sl .one (strs op))]] [⟨54, LC, (injCs cs).map V.d⟩] (BxO_cons rfl rfl (VxL_d _) rfl BxO_nil) (.cons (.agg (.cons (.ref rfl) (.cons .d .nil))) .nil) rfl ?_
 refine AL_alloc zo27 _ rfl rfl ?_
 refine AL_store rfl (nf rfl) rfl rfl rfl rfl rfl rfl (by rfl) ts27 rfl rfl ?_
 refine AL_nil ?_
 refine hK2 _ _ _ ?_
 refine AC_seq fun K3 hK3 => ?_
 refine AC_region ?_
 refine AL_ev (Ev_fa_ptr rfl fa27_0 rfl rfl) rfl ?_
 refine AL_ev (Ev_load_ptr rfl rfl rfl rfl rfl rfl ts24 ta24 rfl (fun _ => rfl)) rfl ?_
 refine AL_ev (Ev_load_ptr rfl rfl rfl rfl rfl rfl ts54 ta54 (by rfl) (by intro h; cases h)) rfl ?_
 refine AL_bD (Lay.st [(Lay.st [.one, .one, .one, .one]), (Lay.st [.one, .one, .one, .one]), .one]) rfl te24 ts54 tz54 rfl rfl (by decide) (by decide) (by rfl) rfl ?_
 refine AL_append rfl rfl rfl te24 ts54 tz54 rfl tb54 (by decide) (by decide) rfl (by (simp; done)) (Src_sl rfl) (by simp only [lim]; (simp; omega)) _ rfl rfl ?_
 refine AL_ev (Ev_fa_ptr rfl fa27_0 rfl rfl) rfl ?_
 refine AL_store rfl (nf rfl) rfl rfl rfl rfl rfl rfl (by rfl) ts24 rfl rfl ?_
 refine AL_nil ?_
 refine hK3 _ _ _ ?_
 refine AC_seq fun K4 hK4 => ?_
 refine AC_seq fun K5 hK5 => ?_
 refine AC_region ?_
 refine AL_ev (Ev_load_ptr rfl rfl rfl rfl rfl rfl ts27 ta27 (by rfl) (by intro h; cases h)) rfl ?_
 refine AL_qcall hT rfl cl144 (c_specDbOk ⟨cs ++ [c], op⟩ hb) (.cons (.rd (.agg (.cons (.ref trivial rfl rfl (by simp) (ReadsL_eq (injCs_app cs c))) (.cons .d .nil)))) .nil) rfl ?_
 refine AL_ev (Ev_not rfl) rfl ?_
 refine AL_nil ?_
 refine hK5 _ _ _ ?_
 refine AC_cond rfl (fun hc1 => ?_) (fun hc1 => ?_)
 ·have hk : dbB ⟨cs ++ [c], op⟩ = false := by simpa using hc1
  refine AC_seq fun K6 hK6 => ?_
  refine AC_region ?_
  refine AL_ev (Ev_load_ptr rfl rfl rfl rfl rfl rfl ts27 ta27 (by rfl) (by intro h; cases h)) rfl ?_
  refine AL_fcall0 hT rfl cl122 (c_copy cs op hl ho) rfl rfl ?_
  refine AL_store rfl (nf rfl) rfl rfl rfl rfl rfl rfl (by rfl) ts27 rfl rfl ?_
  refine AL_ev (Ev_assign) rfl ?_
  refine AL_nil ?_
  refine hK6 _ _ _ ?_
  refine AC_ret ?_
  exact ret_ok hdm (.cell rfl rfl rfl rfl rfl rfl ts27 ta27 (by rfl) (by intro h; cases h) (.tmp rfl rfl .nil)) (.cons .d (.cons .d .nil)) (by rw [addM_f hk])
 ·have hk : dbB ⟨cs ++ [c], op⟩ = true := by simpa using hc1
  refine AC_skip ?_
  refine hK4 _ _ _ ?_
  refine AC_seq fun K7 hK7 => ?_
  refine AC_region ?_
  refine AL_ev (Ev_load_ptr rfl rfl rfl rfl rfl rfl ts27 ta27 (by rfl) (by intro h; cases h)) rfl ?_
  refine AL_store rfl (nf rfl) rfl rfl rfl rfl rfl rfl (by rfl) ts27 rfl rfl ?_
  refine AL_ev (Ev_assign) rfl ?_
  refine AL_nil ?_
  refine hK7 _ _ _ ?_
  refine AC_ret ?_
  exact ret_ok hdm (.cell rfl rfl rfl rfl rfl rfl ts27 ta27 (by rfl) (by intro h; cases h) (.tmp rfl rfl .nil)) (.cons (.agg (.cons (.ref trivial rfl rfl (by simp) (ReadsL_eq (injCs_app cs c))) (.cons .d .nil))) (.cons .d .nil)) (by rw [addM_t hk]; rfl)
set_option maxHeartbeats 1000000 in
set_option maxRecDepth 4000 in
theorem c_addedE (op : List ByteArray) (ho : op.length ≤ 1048576) (c : Cl) (hb : bulkD ⟨[] ++ [c], op⟩ ≤ 1099511627775) : PCall Tryz.prog 114 [injD ⟨[], op⟩, injC c] (· = [injD (addM ⟨[], op⟩ c).1, .c (.bool (addM ⟨[], op⟩ c).2)]) := by
 refine PCall_of (n := 21) Tryz.func114 rfl rfl (Nat.le_of_ble_eq_true rfl) fun C hdm hT0 => ?_
 have hT := hT0
 refine AC_seq fun K1 hK1 => ?_
 refine AC_region ?_
 refine AL_box (Lay.st [.one, .one]) (nf rfl) rfl (by rfl) _ rfl rfl ?_
 refine AL_box (Lay.st [(Lay.st [.one, .one, .one, .one]), (Lay.st [.one, .one, .one, .one]), .one]) (nf rfl) rfl (by rfl) _ rfl rfl ?_
 refine AL_alloc zo27 _ rfl rfl ?_
 refine AL_ev (Ev_assign) rfl ?_
 refine AL_nil ?_
 refine hK1 _ _ _ ?_
 refine AC_seq fun K2 hK2 => ?_
 refine AC_region ?_
 refine AL_ev (Ev_load_ptr rfl rfl rfl rfl rfl rfl ts27 ta27 (by rfl) (by intro h; cases h)) rfl ?_
 refine AL_owc hT rfl cl122 (c_copyE op ho) rfl 3 rfl [.agg [.one, .one] [.emp, .d (.sl .one (strs op))]] [] BxO_nil (.cons (.agg (.cons .emp (.cons .d .nil))) .nil) rfl ?_
 refine AL_alloc zo27 _ rfl rfl ?_
 refine AL_store rfl (nf rfl) rfl rfl rfl rfl rfl rfl (by rfl) ts27 rfl rfl ?_
 refine AL_nil ?_
 refine hK2 _ _ _ ?_
 refine AC_seq fun K3 hK3 => ?_
 refine AC_region ?_
 refine AL_ev (Ev_fa_ptr rfl fa27_0 rfl rfl) rfl ?_
 refine AL_ev (Ev_load_ptr rfl rfl rfl rfl rfl rfl ts24 ta24 rfl (fun _ => rfl)) rfl ?_
 refine AL_ev (Ev_load_ptr rfl rfl rfl rfl rfl rfl ts54 ta54 (by rfl) (by intro h; cases h)) rfl ?_
 refine AL_bD (Lay.st [(Lay.st [.one, .one, .one, .one]), (Lay.st [.one, .one, .one, .one]), .one]) rfl te24 ts54 tz54 rfl rfl (by decide) (by decide) (by rfl) rfl ?_
 refine AL_appendE rfl rfl te24 ts54 tz54 tb54 (by decide) (by simp only [lim]; (simp; done)) rfl ?_
 refine AL_ev (Ev_fa_ptr rfl fa27_0 rfl rfl) rfl ?_
 refine AL_store rfl (nf rfl) rfl rfl rfl rfl rfl rfl (by rfl) ts24 rfl rfl ?_
 refine AL_nil ?_
 refine hK3 _ _ _ ?_
 refine AC_seq fun K4 hK4 => ?_
 refine AC_seq fun K5 hK5 => ?_
 refine AC_region ?_
 refine AL_ev (Ev_load_ptr rfl rfl rfl rfl rfl rfl ts27 ta27 (by rfl) (by intro h; cases h)) rfl ?_
 refine AL_qcall hT rfl cl144 (c_specDbOk ⟨[] ++ [c], op⟩ hb) (.cons (.rd (.agg (.cons .d (.cons .d .nil)))) .nil) rfl ?_
 refine AL_ev (Ev_not rfl) rfl ?_
 refine AL_nil ?_
 refine hK5 _ _ _ ?_
 refine AC_cond rfl (fun hc1 => ?_) (fun hc1 => ?_)
 ·have hk : dbB ⟨[] ++ [c], op⟩ = false := by simpa using hc1
  refine AC_seq fun K6 hK6 => ?_
  refine AC_region ?_
  refine AL_ev (Ev_load_ptr rfl rfl rfl rfl rfl rfl ts27 ta27 (by rfl) (by intro h; cases h)) rfl ?_
  refine AL_fcall0 hT rfl cl122 (c_copy [] op (Nat.zero_le _) ho) rfl rfl ?_
  refine AL_store rfl (nf rfl) rfl rfl rfl rfl rfl rfl (by rfl) ts27 rfl rfl ?_
  refine AL_ev (Ev_assign) rfl ?_
  refine AL_nil ?_
  refine hK6 _ _ _ ?_
  refine AC_ret ?_
  exact ret_ok hdm (.cell rfl rfl rfl rfl rfl rfl ts27 ta27 (by rfl) (by intro h; cases h) (.tmp rfl rfl .nil)) (.cons .d (.cons .d .nil)) (by rw [addM_f hk])
 ·have hk : dbB ⟨[] ++ [c], op⟩ = true := by simpa using hc1
  refine AC_skip ?_
  refine hK4 _ _ _ ?_
  refine AC_seq fun K7 hK7 => ?_
  refine AC_region ?_
  refine AL_ev (Ev_load_ptr rfl rfl rfl rfl rfl rfl ts27 ta27 (by rfl) (by intro h; cases h)) rfl ?_
  refine AL_store rfl (nf rfl) rfl rfl rfl rfl rfl rfl (by rfl) ts27 rfl rfl ?_
  refine AL_ev (Ev_assign) rfl ?_
  refine AL_nil ?_
  refine hK7 _ _ _ ?_
  refine AC_ret ?_
  exact ret_ok hdm (.cell rfl rfl rfl rfl rfl rfl ts27 ta27 (by rfl) (by intro h; cases h) (.tmp rfl rfl .nil)) (.cons (.agg (.cons .d (.cons .d .nil))) (.cons .d .nil)) (by rw [addM_t hk]; rfl)
theorem c_addedRaw (cs : List Cl) (op : List ByteArray) (hl : cs.length ≤ 1048576) (ho : op.length ≤ 1048576) (c : Cl) (hb : bulkD ⟨cs ++ [c], op⟩ ≤ 1099511627775) : PCall Tryz.prog 114 [injD ⟨cs, op⟩, injC c] (· = [injD (addM ⟨cs, op⟩ c).1, .c (.bool (addM ⟨cs, op⟩ c).2)]) := by
 cases cs with
 | nil => exact c_addedE op ho c hb
 | cons a r => exact c_addedO (a :: r) op hl ho (by simp) c hb
end Go.Proofs.YtjgliechbnommaaGreatDoor
set_option linter.unusedVariables false
set_option linter.unusedSimpArgs false
namespace Go.Proofs.YtjgliechbnommaaGreatDoor
open Go.Eng
set_option maxHeartbeats 1000000 in
set_option maxRecDepth 4000 in
theorem c_l03Is (k : Int) (s : ByteArray) (m : Int) (ks : List T) (s2 : ByteArray) (n : Nat) : PCall Tryz.prog 141 [inj (.mk k s m ks), .c (.string s2), .c (.int .i64 (n : Int))] (· = [.c (.bool (decide (k = 4) && decide (s = s2) && decide (ks.length = n)))]) := by
 refine PCall_of (n := 23) Tryz.func141 rfl rfl (Nat.le_of_ble_eq_true rfl) fun C hdm hT0 => ?_
 have hT := hT0
 refine AC_seq fun K1 hK1 => ?_
 refine AC_region ?_
 refine AL_box (Lay.st [.one, .one, .one, .one]) (nf rfl) rfl (by rfl) _ rfl rfl ?_
 refine AL_ev (Ev_assign) rfl ?_
 refine AL_nil ?_
 refine hK1 _ _ _ ?_
 refine AC_seq fun K2 hK2 => ?_
 refine AC_region ?_
 refine AL_ev (Ev_fa_ptr rfl fa41_0 rfl rfl) rfl ?_
 refine AL_ev (Ev_load_ptr rfl rfl rfl rfl rfl rfl ts3 ta3 rfl (fun _ => rfl)) rfl ?_
 refine AL_ev (Ev_eql rfl rfl) rfl ?_
 refine AL_ev (Ev_move) rfl ?_
 refine AL_bool 10 rfl (fun hg1 => ?_) (fun hg1 => ?_)
 ·refine AL_guard_t rfl rfl rfl ?_
  refine AL_ev (Ev_fa_ptr rfl fa41_1 rfl rfl) rfl ?_
  refine AL_guard_t rfl rfl rfl ?_
  refine AL_ev (Ev_load_ptr rfl rfl rfl rfl rfl rfl ts9 ta9 rfl (fun _ => rfl)) rfl ?_
  refine AL_guard_t rfl rfl rfl ?_
  refine AL_ev (Ev_move) rfl ?_
  refine AL_guard_t rfl rfl rfl ?_
  refine AL_ev (Ev_seql rfl rfl) rfl ?_
  refine AL_ev (Ev_pick rfl) rfl ?_
  refine AL_ev (Ev_move) rfl ?_
  refine AL_bool 16 rfl (fun hg2 => ?_) (fun hg2 => ?_)
  ·refine AL_guard_t rfl rfl rfl ?_
   refine AL_ev (Ev_fa_ptr rfl fa41_3 rfl rfl) rfl ?_
   refine AL_guard_t rfl rfl rfl ?_
   refine AL_ev (Ev_load_ptr rfl rfl rfl rfl rfl rfl ts39 ta39 rfl (fun _ => rfl)) rfl ?_
   refine AL_guard_t rfl rfl rfl ?_
   refine AL_lim (x := (Operand.tmp 18)) rfl fun hl1 => ?_
   try simp only [injs_length, ints_length, strs_length, injCs_length, u8s_length, List.length_map] at hl1
   refine AL_ev (Ev_len_injs te39 rfl) rfl ?_
   refine AL_guard_t rfl rfl rfl ?_
   refine AL_ev (Ev_move) rfl ?_
   refine AL_guard_t rfl rfl rfl ?_
   refine AL_ev (Ev_eql rfl rfl) rfl ?_
   refine AL_ev (Ev_pick rfl) rfl ?_
   refine AL_ev (Ev_assign) rfl ?_
   refine AL_nil ?_
   refine hK2 _ _ _ ?_
   refine AC_ret ?_
   refine ret_ok hdm (.tmp rfl rfl .nil) (.cons .d .nil) ?_
   have e9 : decide ((ks.length : Int) = (n : Int)) = decide (ks.length = n) := by by_cases h : ks.length = n <;> simp [h]; omega
   simp_all
  ·refine AL_guard_f rfl rfl rfl rfl ?_
   refine AL_guard_f rfl rfl rfl rfl ?_
   refine AL_guard_f rfl rfl rfl rfl ?_
   refine AL_guard_f rfl rfl rfl rfl ?_
   refine AL_guard_f rfl rfl rfl rfl ?_
   refine AL_ev (Ev_pick rfl) rfl ?_
   refine AL_ev (Ev_assign) rfl ?_
   refine AL_nil ?_
   refine hK2 _ _ _ ?_
   refine AC_ret ?_
   refine ret_ok hdm (.tmp rfl rfl .nil) (.cons .d .nil) ?_
   have e9 : decide ((ks.length : Int) = (n : Int)) = decide (ks.length = n) := by by_cases h : ks.length = n <;> simp [h]; omega
   simp_all
 ·refine AL_guard_f rfl rfl rfl rfl ?_
  refine AL_guard_f rfl rfl rfl rfl ?_
  refine AL_guard_f rfl rfl rfl rfl ?_
  refine AL_guard_f rfl rfl rfl rfl ?_
  refine AL_ev (Ev_pick rfl) rfl ?_
  refine AL_ev (Ev_move) rfl ?_
  refine AL_guard_f rfl rfl rfl rfl ?_
  refine AL_guard_f rfl rfl rfl rfl ?_
  refine AL_guard_f rfl rfl rfl rfl ?_
  refine AL_guard_f rfl rfl rfl rfl ?_
  refine AL_guard_f rfl rfl rfl rfl ?_
  refine AL_ev (Ev_pick rfl) rfl ?_
  refine AL_ev (Ev_assign) rfl ?_
  refine AL_nil ?_
  refine hK2 _ _ _ ?_
  refine AC_ret ?_
  refine ret_ok hdm (.tmp rfl rfl .nil) (.cons .d .nil) ?_
  have e9 : decide ((ks.length : Int) = (n : Int)) = decide (ks.length = n) := by by_cases h : ks.length = n <;> simp [h]; omega
  simp_all
end Go.Proofs.YtjgliechbnommaaGreatDoor
set_option linter.unusedVariables false
set_option linter.unusedSimpArgs false
namespace Go.Proofs.YtjgliechbnommaaGreatDoor
open Go.Eng
theorem cl112 : Callable Tryz.prog 112 := Callable_of Tryz.func112 (by kernel_rfl) (by kernel_rfl)
theorem cl114 : Callable Tryz.prog 114 := Callable_of Tryz.func114 (by kernel_rfl) (by kernel_rfl)
theorem cl115 : Callable Tryz.prog 115 := Callable_of Tryz.func115 (by kernel_rfl) (by kernel_rfl)
theorem cl141 : Callable Tryz.prog 141 := Callable_of Tryz.func141 (by kernel_rfl) (by kernel_rfl)
theorem cl145 : Callable Tryz.prog 145 := Callable_of Tryz.func145 (by kernel_rfl) (by kernel_rfl)
theorem cl39 : Callable Tryz.prog 39 := Callable_of Tryz.func39 (by kernel_rfl) (by kernel_rfl)
theorem cl40 : Callable Tryz.prog 40 := Callable_of Tryz.func40 (by kernel_rfl) (by kernel_rfl)
theorem cl56 : Callable Tryz.prog 56 := Callable_of Tryz.func56 (by kernel_rfl) (by kernel_rfl)
theorem cl80 : Callable Tryz.prog 80 := Callable_of Tryz.func80 (by kernel_rfl) (by kernel_rfl)
theorem cl81 : Callable Tryz.prog 81 := Callable_of Tryz.func81 (by kernel_rfl) (by kernel_rfl)
theorem cl82 : Callable Tryz.prog 82 := Callable_of Tryz.func82 (by kernel_rfl) (by kernel_rfl)
theorem cl83 : Callable Tryz.prog 83 := Callable_of Tryz.func83 (by kernel_rfl) (by kernel_rfl)
theorem cl84 : Callable Tryz.prog 84 := Callable_of Tryz.func84 (by kernel_rfl) (by kernel_rfl)
theorem cl85 : Callable Tryz.prog 85 := Callable_of Tryz.func85 (by kernel_rfl) (by kernel_rfl)
set_option maxHeartbeats 1000000 in
set_option maxRecDepth 4000 in
theorem c_l34Strings (xs : List ByteArray) (hl : xs.length ≤ 1048576) : PCall Tryz.prog 145 [.sl .one (strs xs)] (· = [.sl .one (strs xs)]) := by
 refine PCall_of (n := 6) Tryz.func145 rfl rfl (Nat.le_of_ble_eq_true rfl) fun C hdm hT0 => ?_
 have hT := hT0
 refine AC_seq fun K1 hK1 => ?_
 refine AC_region ?_
 refine AL_ev (Ev_assign) rfl ?_
 refine AL_nil ?_
 refine hK1 _ _ _ ?_
 refine AC_seq fun K2 hK2 => ?_
 refine AC_region ?_
 refine AL_bV .one rfl te25 ts9 tz9 rfl rfl (by decide) (by decide) (by rfl) _ rfl rfl ?_
 refine AL_ev (Ev_move) rfl ?_
 refine AL_append rfl rfl rfl te25 ts9 tz9 rfl tb9 (by decide) (by decide) rfl (by rfl) (Src_sl rfl) (by simp only [lim]; (simp; omega)) _ rfl rfl ?_
 refine AL_ev (Ev_assign) rfl ?_
 refine AL_nil ?_
 refine hK2 _ _ _ ?_
 refine AC_ret ?_
 exact ret_ok hdm (.tmp rfl rfl .nil) (.cons (.ref trivial rfl rfl (by simp) (ReadsL_d _)) .nil) rfl
set_option maxHeartbeats 1000000 in
set_option maxRecDepth 4000 in
theorem c_l34Db (d : Dbt) (ho : d.op.length ≤ 1048576) : PCall Tryz.prog 115 [injD d] (· = [injD d]) := by
 obtain ⟨cs, op⟩ := d
 refine PCall_of (n := 12) Tryz.func115 rfl rfl (Nat.le_of_ble_eq_true rfl) fun C hdm hT0 => ?_
 have hT := hT0
 refine AC_seq fun K1 hK1 => ?_
 refine AC_region ?_
 refine AL_box (Lay.st [.one, .one]) (nf rfl) rfl (by rfl) _ rfl rfl ?_
 refine AL_alloc zo27 _ rfl rfl ?_
 refine AL_nil ?_
 refine hK1 _ _ _ ?_
 refine AC_seq fun K2 hK2 => ?_
 refine AC_region ?_
 refine AL_ev (Ev_fa_ptr rfl fa27_0 rfl rfl) rfl ?_
 refine AL_ev (Ev_load_ptr rfl rfl rfl rfl rfl rfl ts24 ta24 rfl (fun _ => rfl)) rfl ?_
 refine AL_fcall0 hT rfl cl90 (c_l34Clauses cs) rfl rfl ?_
 refine AL_ev (Ev_fa_ptr rfl fa27_0 rfl rfl) rfl ?_
 refine AL_store rfl (nf rfl) rfl rfl rfl rfl rfl rfl (by rfl) ts24 rfl rfl ?_
 refine AL_nil ?_
 refine hK2 _ _ _ ?_
 refine AC_seq fun K3 hK3 => ?_
 refine AC_region ?_
 refine AL_ev (Ev_fa_ptr rfl fa27_1 rfl rfl) rfl ?_
 refine AL_ev (Ev_load_ptr rfl rfl rfl rfl rfl rfl ts25 ta25 rfl (fun _ => rfl)) rfl ?_
 refine AL_fcall0 hT rfl cl145 (c_l34Strings op ho) rfl rfl ?_
 refine AL_ev (Ev_fa_ptr rfl fa27_1 rfl rfl) rfl ?_
 refine AL_store rfl (nf rfl) rfl rfl rfl rfl rfl rfl (by rfl) ts25 rfl rfl ?_
 refine AL_nil ?_
 refine hK3 _ _ _ ?_
 refine AC_seq fun K4 hK4 => ?_
 refine AC_region ?_
 refine AL_ev (Ev_load_ptr rfl rfl rfl rfl rfl rfl ts27 ta27 (by rfl) (by intro h; cases h)) rfl ?_
 refine AL_store rfl (nf rfl) rfl rfl rfl rfl rfl rfl (by rfl) ts27 rfl rfl ?_
 refine AL_nil ?_
 refine hK4 _ _ _ ?_
 refine AC_ret ?_
 exact ret_ok hdm (.cell rfl rfl rfl rfl rfl rfl ts27 ta27 (by rfl) (by intro h; cases h) .nil) (.cons (.agg (.cons .d (.cons .d .nil))) .nil) rfl
set_option maxHeartbeats 1000000 in
set_option maxRecDepth 4000 in
theorem c_added (d : Dbt) (c : Cl) (hl : d.cs.length ≤ 1048576) (ho : d.op.length ≤ 1048576) (hb : bulkD ⟨d.cs ++ [c], d.op⟩ ≤ 1099511627775) : PCall Tryz.prog 85 [injD d, injC c] (· = [injD (addM d c).1, .c (.bool (addM d c).2)]) := by
 obtain ⟨cs, op⟩ := d
 refine PCall_of (n := 17) Tryz.func85 rfl rfl (Nat.le_of_ble_eq_true rfl) fun C hdm hT0 => ?_
 have hT := hT0
 refine AC_seq fun K1 hK1 => ?_
 refine AC_region ?_
 refine AL_box (Lay.st [.one, .one]) (nf rfl) rfl (by rfl) _ rfl rfl ?_
 refine AL_box (Lay.st [(Lay.st [.one, .one, .one, .one]), (Lay.st [.one, .one, .one, .one]), .one]) (nf rfl) rfl (by rfl) _ rfl rfl ?_
 refine AL_alloc zo27 _ rfl rfl ?_
 refine AL_ev (Ev_assign) rfl ?_
 refine AL_nil ?_
 refine hK1 _ _ _ ?_
 refine AC_seq fun K2 hK2 => ?_
 refine AC_region ?_
 refine AL_ev (Ev_load_ptr rfl rfl rfl rfl rfl rfl ts27 ta27 (by rfl) (by intro h; cases h)) rfl ?_
 refine AL_ev (Ev_load_ptr rfl rfl rfl rfl rfl rfl ts54 ta54 (by rfl) (by intro h; cases h)) rfl ?_
 refine AL_fcall0 hT rfl cl114 (c_addedRaw cs op hl ho c hb) rfl rfl ?_
 refine AL_ev (Ev_move) rfl ?_
 refine AL_ev (Ev_extract rfl rfl) rfl ?_
 refine AL_ev (Ev_extract rfl rfl) rfl ?_
 refine AL_alloc zo27 _ rfl rfl ?_
 refine AL_store rfl (nf rfl) rfl rfl rfl rfl rfl rfl (by rfl) ts27 rfl rfl ?_
 refine AL_ev (Ev_assign) rfl ?_
 refine AL_nil ?_
 refine hK2 _ _ _ ?_
 refine AC_seq fun K3 hK3 => ?_
 refine AC_region ?_
 refine AL_ev (Ev_load_ptr rfl rfl rfl rfl rfl rfl ts27 ta27 (by rfl) (by intro h; cases h)) rfl ?_
 refine AL_fcall0 hT rfl cl115 (c_l34Db (addM ⟨cs, op⟩ c).1 (by rw [(addM_len ⟨cs, op⟩ c).2]; exact ho)) rfl rfl ?_
 refine AL_ev (Ev_move) rfl ?_
 refine AL_store rfl (nf rfl) rfl rfl rfl rfl rfl rfl (by rfl) ts27 rfl rfl ?_
 refine AL_ev (Ev_assign) rfl ?_
 refine AL_nil ?_
 refine hK3 _ _ _ ?_
 refine AC_ret ?_
 exact ret_ok hdm (.cell rfl rfl rfl rfl rfl rfl ts27 ta27 (by rfl) (by intro h; cases h) (.tmp rfl rfl .nil)) (.cons .d (.cons .d .nil)) rfl
set_option maxHeartbeats 2000000 in
set_option maxRecDepth 4000 in
theorem c_clOf1 (m : Int) (a : T) (kb : Int) (sb : ByteArray) (mb : Int) (ksb : List T) (f : ByteArray) (hb : bulk (.mk 4 neck m [a, .mk kb sb mb ksb]) ≤ 1099511627770) : PCall Tryz.prog 112 [inj (.mk 4 neck m [a, .mk kb sb mb ksb]), .c (.string f)] (· = [injC (clOf (.mk 4 neck m [a, .mk kb sb mb ksb]) f).1, .c (.bool (clOf (.mk 4 neck m [a, .mk kb sb mb ksb]) f).2)]) := by
 have hu0 : (injs [a, .mk kb sb mb ksb])[(0 : Int).toNat]? = some (inj a) := rfl
 have hu1 : (injs [a, .mk kb sb mb ksb])[(1 : Int).toNat]? = some (inj (.mk kb sb mb ksb)) := rfl
 have hsz : (neck.size : Int) = 2 := rfl
 have hsc : (callN.size : Int) = 4 := rfl
 have hbs := hb
 simp only [bulk, bulkS_eq, bulkL, List.length_cons, List.length_nil] at hbs
 have hna := bulk_nn a
 have hnb := bulkL_nn ksb
 have hba : bulk a ≤ 1099511627776 := by omega
 have hbb : bulk (.mk kb sb mb ksb) ≤ 1099511627776 := by simp only [bulk, bulkS_eq]; omega
 have hbc : bulk (.mk 4 callN 0 [.mk kb sb mb ksb]) ≤ 1099511627776 := by simp only [bulk, bulkS_eq, bulkL, List.length_cons, List.length_nil]; omega
 refine PCall_of (n := 48) Tryz.func112 rfl rfl (Nat.le_of_ble_eq_true rfl) fun C hdm hT0 => ?_
 have hT := hT0
 refine AC_seq fun K1 hK1 => ?_
 refine AC_region ?_
 refine AL_box (Lay.st [.one, .one, .one, .one]) (nf rfl) rfl (by rfl) _ rfl rfl ?_
 refine AL_alloc zo54 _ rfl rfl ?_
 refine AL_ev (Ev_assign) rfl ?_
 refine AL_nil ?_
 refine hK1 _ _ _ ?_
 refine AC_seq fun K2 hK2 => ?_
 refine AC_seq fun K3 hK3 => ?_
 refine AC_region ?_
 refine AL_ev (Ev_load_ptr rfl rfl rfl rfl rfl rfl ts41 ta41 (by rfl) (by intro h; cases h)) rfl ?_
 refine AL_fcall0 hT rfl cl64 (c_specTermOk (.mk 4 neck m [a, .mk kb sb mb ksb]) (by omega)) rfl rfl ?_
 refine AL_ev (Ev_not rfl) rfl ?_
 refine AL_nil ?_
 refine hK3 _ _ _ ?_
 refine AC_cond rfl (fun hc1 => ?_) (fun hc1 => ?_)
 ·have h0 : ¬ okT (.mk 4 neck m [a, .mk kb sb mb ksb]) = true := by simpa using hc1
  have hR : clOf (.mk 4 neck m [a, .mk kb sb mb ksb]) f = (clZ, false) := by simp only [clOf]; exact if_neg fun h => h0 h.1
  refine AC_seq fun K4 hK4 => ?_
  refine AC_region ?_
  refine AL_ev (Ev_buildD (fs := [LT, LT, .one]) (zs := [zT, zT, .c (.string ⟨#[]⟩)]) tz54 rfl tpl54 .nil rfl) rfl ?_
  refine AL_wk (Wk_conv 10 rfl zC_le ?_)
  refine AL_store rfl (nf rfl) rfl rfl rfl rfl rfl rfl (by rfl) ts54 rfl rfl ?_
  refine AL_ev (Ev_assign) rfl ?_
  refine AL_nil ?_
  refine hK4 _ _ _ ?_
  refine AC_ret ?_
  exact ret_ok hdm (.cell rfl rfl rfl rfl rfl rfl ts54 ta54 (by rfl) (by intro h; cases h) (.tmp rfl rfl .nil)) (.cons .d (.cons .d .nil)) (by rw [hR])
 ·have h0 : okT (.mk 4 neck m [a, .mk kb sb mb ksb]) = true := by simpa using hc1
  refine AC_skip ?_
  refine hK2 _ _ _ ?_
  refine AC_seq fun K5 hK5 => ?_
  refine AC_draw hT follows [0, 1, 2, 3, 4, 5] (by kernel_rfl) ?_
  refine DT_ev rfl (EA_load_ptr rfl rfl rfl rfl rfl rfl ts41 ta41 (by rfl) (by intro h; cases h)) rfl ?_
  refine DT_fcall0 rfl rfl cl58 (c_atom03 trueN) rfl rfl ?_
  refine DT_ev rfl (EA_move) rfl ?_
  refine DT_ev rfl (EA_build (fs := [(Lay.st [.one, .one, .one, .one]), (Lay.st [.one, .one, .one, .one]), .one]) (zs := [.agg [.one, .one, .one, .one] [.c (.int .i64 0), .c (.string ⟨#[]⟩), .c (.int .i64 0), .c (.slice none 0 0)], .agg [.one, .one, .one, .one] [.c (.int .i64 0), .c (.string ⟨#[]⟩), .c (.int .i64 0), .c (.slice none 0 0)], .c (.string ⟨#[]⟩)]) tz54 rfl tpl54 (.cons rfl rfl (by rfl) (.cons rfl rfl (by rfl) (.cons rfl rfl (by rfl) .nil)))) rfl ?_
  refine DT_allocS rfl tz54 rfl rfl (by kernel_rfl) fun Ca1 ba1 hxa1 hba1 hla1 => ?_
  have hTa1 := hT
  have hT := hT.ext hxa1
  refine DTi.t [0, 1, 2, 3, 4, 5] (os := [_]) (by kernel_rfl) rfl ?_
  refine AL_boxraw (s := 6) (l := (Lay.st [(Lay.st [.one, .one, .one, .one]), (Lay.st [.one, .one, .one, .one]), .one])) (z := .agg [(Lay.st [.one, .one, .one, .one]), (Lay.st [.one, .one, .one, .one]), .one] [.agg [.one, .one, .one, .one] [.c (.int .i64 0), .c (.string ⟨#[]⟩), .c (.int .i64 0), .c (.slice none 0 0)], .agg [.one, .one, .one, .one] [.c (.int .i64 0), .c (.string ⟨#[]⟩), .c (.int .i64 0), .c (.slice none 0 0)], .c (.string ⟨#[]⟩)]) hxa1 rfl hba1 hla1 rfl (fun _ _ _ => VC_cells rfl) _ rfl ?_
  have hT := hTa1
  refine AL_store rfl (nf rfl) rfl rfl rfl rfl rfl rfl (by rfl) ts54 rfl rfl ?_
  refine AL_nil ?_
  refine hK5 _ _ _ ?_
  refine AC_seq fun K6 hK6 => ?_
  refine AC_seq fun K7 hK7 => ?_
  refine AC_region ?_
  refine AL_ev (Ev_load_ptr rfl rfl rfl rfl rfl rfl ts41 ta41 (by rfl) (by intro h; cases h)) rfl ?_
  refine AL_fcall0 hT rfl cl141 (c_l03Is 4 neck m [a, .mk kb sb mb ksb] neck 2) rfl rfl ?_
  refine AL_nil ?_
  refine hK7 _ _ _ ?_
  refine AC_cond rfl (fun hc2 => ?_) (fun hc2 => ?_)
  ·refine AC_seq fun K8 hK8 => ?_
   refine AC_region ?_
   refine AL_ev (Ev_fa_ptr rfl fa41_3 rfl rfl) rfl ?_
   refine AL_ev (Ev_load_ptr rfl rfl rfl rfl rfl rfl ts39 ta39 rfl (fun _ => rfl)) rfl ?_
   refine AL_ev (Ev_ix_sl rfl rfl te39 ts41 (by omega) (by assumption)) rfl ?_
   refine AL_ev (Ev_load_rp rfl rfl rfl ts41 ta41 (by simp) (by intro h; cases h)) rfl ?_
   refine AL_ev (Ev_fa_ptr rfl fa54_0 rfl rfl) rfl ?_
   refine AL_store rfl (nf rfl) rfl rfl rfl rfl rfl rfl (by simp [Lay.len, Lay.lens]) ts41 rfl rfl ?_
   refine AL_nil ?_
   refine hK8 _ _ _ ?_
   refine AC_seq fun K9 hK9 => ?_
   refine AC_region ?_
   refine AL_ev (Ev_fa_ptr rfl fa41_3 rfl rfl) rfl ?_
   refine AL_ev (Ev_load_ptr rfl rfl rfl rfl rfl rfl ts39 ta39 rfl (fun _ => rfl)) rfl ?_
   refine AL_ev (Ev_ix_sl rfl rfl te39 ts41 (by omega) (by assumption)) rfl ?_
   refine AL_ev (Ev_load_rp rfl rfl rfl ts41 ta41 (by rfl) (by intro h; cases h)) rfl ?_
   refine AL_ev (Ev_fa_ptr rfl fa54_1 rfl rfl) rfl ?_
   refine AL_store rfl (nf rfl) rfl rfl rfl rfl rfl rfl (by rfl) ts41 rfl rfl ?_
   refine AL_nil ?_
   refine hK9 _ _ _ ?_
   refine AC_seq fun K10 hK10 => ?_
   refine AC_region ?_
   refine AL_ev (Ev_fa_ptr rfl fa54_1 rfl rfl) rfl ?_
   refine AL_ev (Ev_fa_ptr rfl fa41_0 rfl rfl) rfl ?_
   refine AL_ev (Ev_load_ptr rfl rfl rfl rfl rfl rfl ts3 ta3 rfl (fun _ => rfl)) rfl ?_
   refine AL_ev (Ev_eql rfl rfl) rfl ?_
   refine AL_nil ?_
   refine hK10 _ _ _ ?_
   refine AC_cond rfl (fun hc3 => ?_) (fun hc3 => ?_)
   ·have hsp := split1 (m := m) (a := a) (b := .mk kb sb mb ksb) (of_decide_eq_true hc3)
    refine AC_region ?_
    refine AL_ev (Ev_fa_ptr rfl fa54_1 rfl rfl) rfl ?_
    refine AL_ev (Ev_load_ptr rfl rfl rfl rfl rfl rfl ts41 ta41 (by rfl) (by intro h; cases h)) rfl ?_
    refine AL_bD (Lay.st [.one, .one, .one, .one]) rfl te39 ts41 tz41 rfl rfl (by decide) (by decide) (by rfl) rfl ?_
    refine AL_ev (Ev_buildD (fs := [.one, .one, .one, .one]) (zs := [.c (.int .i64 0), .c (.string ⟨#[]⟩), .c (.int .i64 0), .c (.slice none 0 0)]) tz41 rfl tpl41 (.cons rfl rfl (by rfl) (.cons rfl rfl (by rfl) (.cons rfl rfl (by rfl) .nil))) rfl) rfl ?_
    refine AL_ev (Ev_fa_ptr rfl fa54_1 rfl rfl) rfl ?_
    refine AL_store rfl (nf rfl) rfl rfl rfl rfl rfl rfl (by rfl) ts41 rfl rfl ?_
    refine AL_nil ?_
    refine hK6 _ _ _ ?_
    refine AC_seq fun K11 hK11 => ?_
    refine AC_seq fun K12 hK12 => ?_
    refine AC_region ?_
    refine AL_ev (Ev_fa_ptr rfl fa54_0 rfl rfl) rfl ?_
    refine AL_ev (Ev_load_ptr rfl rfl rfl rfl rfl rfl ts41 ta41 (by simp) (by intro h; cases h)) rfl ?_
    refine AL_fcall0 hT rfl cl142 (c_l08Head a hba) rfl rfl ?_
    refine AL_ev (Ev_not rfl) rfl ?_
    refine AL_ev (Ev_move) rfl ?_
    refine AL_bool 40 rfl (fun hg4 => ?_) (fun hg4 => ?_)
    ·have hR := clOf_f (f := f) hsp (fun h => by rw [h.2.1] at hg4; cases hg4)
     refine AL_guard_f rfl rfl rfl rfl ?_
     refine AL_guard_f rfl rfl rfl rfl ?_
     refine AL_guard_f rfl rfl rfl rfl ?_
     refine AL_guard_f rfl rfl rfl rfl ?_
     refine AL_ev (Ev_pick rfl) rfl ?_
     refine AL_nil ?_
     refine hK12 _ _ _ ?_
     refine AC_cond_t rfl ?_
     refine AC_seq fun K13 hK13 => ?_
     refine AC_region ?_
     refine AL_ev (Ev_buildD (fs := [LT, LT, .one]) (zs := [zT, zT, .c (.string ⟨#[]⟩)]) tz54 rfl tpl54 .nil rfl) rfl ?_
     refine AL_wk (Wk_conv 46 rfl zC_le ?_)
     refine AL_store rfl (nf rfl) rfl rfl rfl rfl rfl rfl (by rfl) ts54 rfl rfl ?_
     refine AL_ev (Ev_assign) rfl ?_
     refine AL_nil ?_
     refine hK13 _ _ _ ?_
     refine AC_ret ?_
     exact ret_ok hdm (.cell rfl rfl rfl rfl rfl rfl ts54 ta54 (by rfl) (by intro h; cases h) (.tmp rfl rfl .nil)) (.cons .d (.cons .d .nil)) (by rw [hR])
    ·have hh : headB a = true := by simpa using hg4
     refine AL_guard_t rfl rfl rfl ?_
     refine AL_ev (Ev_fa_ptr rfl fa54_1 rfl rfl) rfl ?_
     refine AL_guard_t rfl rfl rfl ?_
     refine AL_ev (Ev_load_ptr rfl rfl rfl rfl rfl rfl ts41 ta41 (by rfl) (by intro h; cases h)) rfl ?_
     refine AL_guard_t rfl rfl rfl ?_
     refine AL_fcall0 hT rfl cl64 (c_specTermOk (.mk 4 callN 0 [.mk kb sb mb ksb]) hbc) rfl rfl ?_
     refine AL_guard_t rfl rfl rfl ?_
     refine AL_ev (Ev_not rfl) rfl ?_
     refine AL_ev (Ev_pick rfl) rfl ?_
     refine AL_nil ?_
     refine hK12 _ _ _ ?_
     refine AC_cond rfl (fun hc5 => ?_) (fun hc5 => ?_)
     ·have hR := clOf_f (f := f) hsp (fun h => by rw [h.2.2] at hc5; cases hc5)
      refine AC_seq fun K14 hK14 => ?_
      refine AC_region ?_
      refine AL_ev (Ev_buildD (fs := [LT, LT, .one]) (zs := [zT, zT, .c (.string ⟨#[]⟩)]) tz54 rfl tpl54 .nil rfl) rfl ?_
      refine AL_wk (Wk_conv 46 rfl zC_le ?_)
      refine AL_store rfl (nf rfl) rfl rfl rfl rfl rfl rfl (by rfl) ts54 rfl rfl ?_
      refine AL_ev (Ev_assign) rfl ?_
      refine AL_nil ?_
      refine hK14 _ _ _ ?_
      refine AC_ret ?_
      exact ret_ok hdm (.cell rfl rfl rfl rfl rfl rfl ts54 ta54 (by rfl) (by intro h; cases h) (.tmp rfl rfl .nil)) (.cons .d (.cons .d .nil)) (by rw [hR])
     ·have hR := clOf_t (f := f) h0 hsp hh (by simpa using hc5)
      refine AC_skip ?_
      refine hK11 _ _ _ ?_
      refine AC_seq fun K15 hK15 => ?_
      refine AC_region ?_
      refine AL_ev (Ev_load_ptr rfl rfl rfl rfl rfl rfl ts54 ta54 (by rfl) (by intro h; cases h)) rfl ?_
      refine AL_store rfl (nf rfl) rfl rfl rfl rfl rfl rfl (by rfl) ts54 rfl rfl ?_
      refine AL_ev (Ev_assign) rfl ?_
      refine AL_nil ?_
      refine hK15 _ _ _ ?_
      refine AC_ret ?_
      exact ret_ok hdm (.cell rfl rfl rfl rfl rfl rfl ts54 ta54 (by rfl) (by intro h; cases h) (.tmp rfl rfl .nil)) (.cons (.agg (.cons .d (.cons .d (.cons .d .nil)))) (.cons .d .nil)) (by rw [hR]; rfl)
   ·have hsp := split2 (m := m) (a := a) (b := .mk kb sb mb ksb) (of_decide_eq_false hc3)
    refine AC_skip ?_
    refine hK6 _ _ _ ?_
    refine AC_seq fun K16 hK16 => ?_
    refine AC_seq fun K17 hK17 => ?_
    refine AC_region ?_
    refine AL_ev (Ev_fa_ptr rfl fa54_0 rfl rfl) rfl ?_
    refine AL_ev (Ev_load_ptr rfl rfl rfl rfl rfl rfl ts41 ta41 (by simp) (by intro h; cases h)) rfl ?_
    refine AL_fcall0 hT rfl cl142 (c_l08Head a hba) rfl rfl ?_
    refine AL_ev (Ev_not rfl) rfl ?_
    refine AL_ev (Ev_move) rfl ?_
    refine AL_bool 40 rfl (fun hg6 => ?_) (fun hg6 => ?_)
    ·have hR := clOf_f (f := f) hsp (fun h => by rw [h.2.1] at hg6; cases hg6)
     refine AL_guard_f rfl rfl rfl rfl ?_
     refine AL_guard_f rfl rfl rfl rfl ?_
     refine AL_guard_f rfl rfl rfl rfl ?_
     refine AL_guard_f rfl rfl rfl rfl ?_
     refine AL_ev (Ev_pick rfl) rfl ?_
     refine AL_nil ?_
     refine hK17 _ _ _ ?_
     refine AC_cond_t rfl ?_
     refine AC_seq fun K18 hK18 => ?_
     refine AC_region ?_
     refine AL_ev (Ev_buildD (fs := [LT, LT, .one]) (zs := [zT, zT, .c (.string ⟨#[]⟩)]) tz54 rfl tpl54 .nil rfl) rfl ?_
     refine AL_wk (Wk_conv 46 rfl zC_le ?_)
     refine AL_store rfl (nf rfl) rfl rfl rfl rfl rfl rfl (by rfl) ts54 rfl rfl ?_
     refine AL_ev (Ev_assign) rfl ?_
     refine AL_nil ?_
     refine hK18 _ _ _ ?_
     refine AC_ret ?_
     exact ret_ok hdm (.cell rfl rfl rfl rfl rfl rfl ts54 ta54 (by rfl) (by intro h; cases h) (.tmp rfl rfl .nil)) (.cons .d (.cons .d .nil)) (by rw [hR])
    ·have hh : headB a = true := by simpa using hg6
     refine AL_guard_t rfl rfl rfl ?_
     refine AL_ev (Ev_fa_ptr rfl fa54_1 rfl rfl) rfl ?_
     refine AL_guard_t rfl rfl rfl ?_
     refine AL_ev (Ev_load_ptr rfl rfl rfl rfl rfl rfl ts41 ta41 (by rfl) (by intro h; cases h)) rfl ?_
     refine AL_guard_t rfl rfl rfl ?_
     refine AL_fcall0 hT rfl cl64 (c_specTermOk (.mk kb sb mb ksb) hbb) rfl rfl ?_
     refine AL_guard_t rfl rfl rfl ?_
     refine AL_ev (Ev_not rfl) rfl ?_
     refine AL_ev (Ev_pick rfl) rfl ?_
     refine AL_nil ?_
     refine hK17 _ _ _ ?_
     refine AC_cond rfl (fun hc7 => ?_) (fun hc7 => ?_)
     ·have hR := clOf_f (f := f) hsp (fun h => by rw [h.2.2] at hc7; cases hc7)
      refine AC_seq fun K19 hK19 => ?_
      refine AC_region ?_
      refine AL_ev (Ev_buildD (fs := [LT, LT, .one]) (zs := [zT, zT, .c (.string ⟨#[]⟩)]) tz54 rfl tpl54 .nil rfl) rfl ?_
      refine AL_wk (Wk_conv 46 rfl zC_le ?_)
      refine AL_store rfl (nf rfl) rfl rfl rfl rfl rfl rfl (by rfl) ts54 rfl rfl ?_
      refine AL_ev (Ev_assign) rfl ?_
      refine AL_nil ?_
      refine hK19 _ _ _ ?_
      refine AC_ret ?_
      exact ret_ok hdm (.cell rfl rfl rfl rfl rfl rfl ts54 ta54 (by rfl) (by intro h; cases h) (.tmp rfl rfl .nil)) (.cons .d (.cons .d .nil)) (by rw [hR])
     ·have hR := clOf_t (f := f) h0 hsp hh (by simpa using hc7)
      refine AC_skip ?_
      refine hK16 _ _ _ ?_
      refine AC_seq fun K20 hK20 => ?_
      refine AC_region ?_
      refine AL_ev (Ev_load_ptr rfl rfl rfl rfl rfl rfl ts54 ta54 (by rfl) (by intro h; cases h)) rfl ?_
      refine AL_store rfl (nf rfl) rfl rfl rfl rfl rfl rfl (by rfl) ts54 rfl rfl ?_
      refine AL_ev (Ev_assign) rfl ?_
      refine AL_nil ?_
      refine hK20 _ _ _ ?_
      refine AC_ret ?_
      exact ret_ok hdm (.cell rfl rfl rfl rfl rfl rfl ts54 ta54 (by rfl) (by intro h; cases h) (.tmp rfl rfl .nil)) (.cons (.agg (.cons .d (.cons .d (.cons .d .nil)))) (.cons .d .nil)) (by rw [hR]; rfl)
  ·exact absurd hc2 (by simp)
set_option maxHeartbeats 2000000 in
set_option maxRecDepth 4000 in
theorem c_clOf2 (k : Int) (s : ByteArray) (m : Int) (ks : List T) (f : ByteArray) (hb : bulk (.mk k s m ks) ≤ 1099511627770) (hno : ruleB k s ks.length = false) : PCall Tryz.prog 112 [inj (.mk k s m ks), .c (.string f)] (· = [injC (clOf (.mk k s m ks) f).1, .c (.bool (clOf (.mk k s m ks) f).2)]) := by
 have hsp := split3 (m := m) hno
 have hbt : bulk (atom0 trueN) ≤ 1099511627776 := by rw [bulk_atom]; decide
 refine PCall_of (n := 48) Tryz.func112 rfl rfl (Nat.le_of_ble_eq_true rfl) fun C hdm hT0 => ?_
 have hT := hT0
 refine AC_seq fun K1 hK1 => ?_
 refine AC_region ?_
 refine AL_box (Lay.st [.one, .one, .one, .one]) (nf rfl) rfl (by rfl) _ rfl rfl ?_
 refine AL_alloc zo54 _ rfl rfl ?_
 refine AL_ev (Ev_assign) rfl ?_
 refine AL_nil ?_
 refine hK1 _ _ _ ?_
 refine AC_seq fun K2 hK2 => ?_
 refine AC_seq fun K3 hK3 => ?_
 refine AC_region ?_
 refine AL_ev (Ev_load_ptr rfl rfl rfl rfl rfl rfl ts41 ta41 (by rfl) (by intro h; cases h)) rfl ?_
 refine AL_fcall0 hT rfl cl64 (c_specTermOk (.mk k s m ks) (by omega)) rfl rfl ?_
 refine AL_ev (Ev_not rfl) rfl ?_
 refine AL_nil ?_
 refine hK3 _ _ _ ?_
 refine AC_cond rfl (fun hc1 => ?_) (fun hc1 => ?_)
 ·have h0 : ¬ okT (.mk k s m ks) = true := by simpa using hc1
  have hR := clOf_f (f := f) hsp (fun h => h0 h.1)
  refine AC_seq fun K4 hK4 => ?_
  refine AC_region ?_
  refine AL_ev (Ev_buildD (fs := [LT, LT, .one]) (zs := [zT, zT, .c (.string ⟨#[]⟩)]) tz54 rfl tpl54 .nil rfl) rfl ?_
  refine AL_wk (Wk_conv 10 rfl zC_le ?_)
  refine AL_store rfl (nf rfl) rfl rfl rfl rfl rfl rfl (by rfl) ts54 rfl rfl ?_
  refine AL_ev (Ev_assign) rfl ?_
  refine AL_nil ?_
  refine hK4 _ _ _ ?_
  refine AC_ret ?_
  exact ret_ok hdm (.cell rfl rfl rfl rfl rfl rfl ts54 ta54 (by rfl) (by intro h; cases h) (.tmp rfl rfl .nil)) (.cons .d (.cons .d .nil)) (by rw [hR])
 ·have h0 : okT (.mk k s m ks) = true := by simpa using hc1
  refine AC_skip ?_
  refine hK2 _ _ _ ?_
  refine AC_seq fun K5 hK5 => ?_
  refine AC_draw hT follows [0, 1, 2, 3, 4, 5] (by kernel_rfl) ?_
  refine DT_ev rfl (EA_load_ptr rfl rfl rfl rfl rfl rfl ts41 ta41 (by rfl) (by intro h; cases h)) rfl ?_
  refine DT_fcall0 rfl rfl cl58 (c_atom03 trueN) rfl rfl ?_
  refine DT_ev rfl (EA_move) rfl ?_
  refine DT_ev rfl (EA_build (fs := [(Lay.st [.one, .one, .one, .one]), (Lay.st [.one, .one, .one, .one]), .one]) (zs := [.agg [.one, .one, .one, .one] [.c (.int .i64 0), .c (.string ⟨#[]⟩), .c (.int .i64 0), .c (.slice none 0 0)], .agg [.one, .one, .one, .one] [.c (.int .i64 0), .c (.string ⟨#[]⟩), .c (.int .i64 0), .c (.slice none 0 0)], .c (.string ⟨#[]⟩)]) tz54 rfl tpl54 (.cons rfl rfl (by rfl) (.cons rfl rfl (by rfl) (.cons rfl rfl (by rfl) .nil)))) rfl ?_
  refine DT_allocS rfl tz54 rfl rfl (by kernel_rfl) fun Ca1 ba1 hxa1 hba1 hla1 => ?_
  have hTa1 := hT
  have hT := hT.ext hxa1
  refine DTi.t [0, 1, 2, 3, 4, 5] (os := [_]) (by kernel_rfl) rfl ?_
  refine AL_boxraw (s := 6) (l := (Lay.st [(Lay.st [.one, .one, .one, .one]), (Lay.st [.one, .one, .one, .one]), .one])) (z := .agg [(Lay.st [.one, .one, .one, .one]), (Lay.st [.one, .one, .one, .one]), .one] [.agg [.one, .one, .one, .one] [.c (.int .i64 0), .c (.string ⟨#[]⟩), .c (.int .i64 0), .c (.slice none 0 0)], .agg [.one, .one, .one, .one] [.c (.int .i64 0), .c (.string ⟨#[]⟩), .c (.int .i64 0), .c (.slice none 0 0)], .c (.string ⟨#[]⟩)]) hxa1 rfl hba1 hla1 rfl (fun _ _ _ => VC_cells rfl) _ rfl ?_
  have hT := hTa1
  refine AL_store rfl (nf rfl) rfl rfl rfl rfl rfl rfl (by rfl) ts54 rfl rfl ?_
  refine AL_nil ?_
  refine hK5 _ _ _ ?_
  refine AC_seq fun K6 hK6 => ?_
  refine AC_seq fun K7 hK7 => ?_
  refine AC_region ?_
  refine AL_ev (Ev_load_ptr rfl rfl rfl rfl rfl rfl ts41 ta41 (by rfl) (by intro h; cases h)) rfl ?_
  refine AL_fcall0 hT rfl cl141 (c_l03Is k s m ks neck 2) rfl rfl ?_
  refine AL_nil ?_
  refine hK7 _ _ _ ?_
  refine AC_cond rfl (fun hc2 => ?_) (fun hc2 => ?_)
  ·exact absurd (hno.symm.trans hc2) (by decide)
  ·refine AC_skip ?_
   refine hK6 _ _ _ ?_
   refine AC_seq fun K8 hK8 => ?_
   refine AC_seq fun K9 hK9 => ?_
   refine AC_region ?_
   refine AL_ev (Ev_fa_ptr rfl fa54_0 rfl rfl) rfl ?_
   refine AL_ev (Ev_load_ptr rfl rfl rfl rfl rfl rfl ts41 ta41 (by rfl) (by intro h; cases h)) rfl ?_
   refine AL_fcall0 hT rfl cl142 (c_l08Head (.mk k s m ks) (by omega)) rfl rfl ?_
   refine AL_ev (Ev_not rfl) rfl ?_
   refine AL_ev (Ev_move) rfl ?_
   refine AL_bool 40 rfl (fun hg3 => ?_) (fun hg3 => ?_)
   ·have hR := clOf_f (f := f) hsp (fun h => by rw [h.2.1] at hg3; cases hg3)
    refine AL_guard_f rfl rfl rfl rfl ?_
    refine AL_guard_f rfl rfl rfl rfl ?_
    refine AL_guard_f rfl rfl rfl rfl ?_
    refine AL_guard_f rfl rfl rfl rfl ?_
    refine AL_ev (Ev_pick rfl) rfl ?_
    refine AL_nil ?_
    refine hK9 _ _ _ ?_
    refine AC_cond_t rfl ?_
    refine AC_seq fun K10 hK10 => ?_
    refine AC_region ?_
    refine AL_ev (Ev_buildD (fs := [LT, LT, .one]) (zs := [zT, zT, .c (.string ⟨#[]⟩)]) tz54 rfl tpl54 .nil rfl) rfl ?_
    refine AL_wk (Wk_conv 46 rfl zC_le ?_)
    refine AL_store rfl (nf rfl) rfl rfl rfl rfl rfl rfl (by rfl) ts54 rfl rfl ?_
    refine AL_ev (Ev_assign) rfl ?_
    refine AL_nil ?_
    refine hK10 _ _ _ ?_
    refine AC_ret ?_
    exact ret_ok hdm (.cell rfl rfl rfl rfl rfl rfl ts54 ta54 (by rfl) (by intro h; cases h) (.tmp rfl rfl .nil)) (.cons .d (.cons .d .nil)) (by rw [hR])
   ·have hh : headB (.mk k s m ks) = true := by simpa using hg3
    refine AL_guard_t rfl rfl rfl ?_
    refine AL_ev (Ev_fa_ptr rfl fa54_1 rfl rfl) rfl ?_
    refine AL_guard_t rfl rfl rfl ?_
    refine AL_ev (Ev_load_ptr rfl rfl rfl rfl rfl rfl ts41 ta41 (by rfl) (by intro h; cases h)) rfl ?_
    refine AL_guard_t rfl rfl rfl ?_
    refine AL_fcall0 hT rfl cl64 (c_specTermOk (atom0 trueN) hbt) rfl rfl ?_
    refine AL_guard_t rfl rfl rfl ?_
    refine AL_ev (Ev_not rfl) rfl ?_
    refine AL_ev (Ev_pick rfl) rfl ?_
    refine AL_nil ?_
    refine hK9 _ _ _ ?_
    refine AC_cond rfl (fun hc4 => ?_) (fun hc4 => ?_)
    ·have hR := clOf_f (f := f) hsp (fun h => by rw [h.2.2] at hc4; cases hc4)
     refine AC_seq fun K11 hK11 => ?_
     refine AC_region ?_
     refine AL_ev (Ev_buildD (fs := [LT, LT, .one]) (zs := [zT, zT, .c (.string ⟨#[]⟩)]) tz54 rfl tpl54 .nil rfl) rfl ?_
     refine AL_wk (Wk_conv 46 rfl zC_le ?_)
     refine AL_store rfl (nf rfl) rfl rfl rfl rfl rfl rfl (by rfl) ts54 rfl rfl ?_
     refine AL_ev (Ev_assign) rfl ?_
     refine AL_nil ?_
     refine hK11 _ _ _ ?_
     refine AC_ret ?_
     exact ret_ok hdm (.cell rfl rfl rfl rfl rfl rfl ts54 ta54 (by rfl) (by intro h; cases h) (.tmp rfl rfl .nil)) (.cons .d (.cons .d .nil)) (by rw [hR])
    ·have hR := clOf_t (f := f) h0 hsp hh (by simpa using hc4)
     refine AC_skip ?_
     refine hK8 _ _ _ ?_
     refine AC_seq fun K12 hK12 => ?_
     refine AC_region ?_
     refine AL_ev (Ev_load_ptr rfl rfl rfl rfl rfl rfl ts54 ta54 (by rfl) (by intro h; cases h)) rfl ?_
     refine AL_store rfl (nf rfl) rfl rfl rfl rfl rfl rfl (by rfl) ts54 rfl rfl ?_
     refine AL_ev (Ev_assign) rfl ?_
     refine AL_nil ?_
     refine hK12 _ _ _ ?_
     refine AC_ret ?_
     exact ret_ok hdm (.cell rfl rfl rfl rfl rfl rfl ts54 ta54 (by rfl) (by intro h; cases h) (.tmp rfl rfl .nil)) (.cons (.agg (.cons .d (.cons .d (.cons .d .nil)))) (.cons .d .nil)) (by rw [hR]; rfl)
theorem c_clOfRaw (t : T) (f : ByteArray) (hb : bulk t ≤ 1099511627770) : PCall Tryz.prog 112 [inj t, .c (.string f)] (· = [injC (clOf t f).1, .c (.bool (clOf t f).2)]) := by
 obtain ⟨k, s, m, ks⟩ := t
 cases hr : ruleB k s ks.length with
 | false => exact c_clOf2 k s m ks f hb hr
 | true =>
   have hr2 := hr
   simp only [ruleB, Bool.and_eq_true, decide_eq_true_eq] at hr2
   obtain ⟨⟨rfl, rfl⟩, hl⟩ := hr2
   match ks, hl with
   | [a, .mk kb sb mb ksb], _ => exact c_clOf1 m a kb sb mb ksb f hb
set_option maxHeartbeats 1000000 in
set_option maxRecDepth 4000 in
theorem c_clauseOf (t : T) (f : ByteArray) (hb : bulk t ≤ 1099511627770) : PCall Tryz.prog 84 [inj t, .c (.string f)] (· = [injC (clOf t f).1, .c (.bool (clOf t f).2)]) := by
 refine PCall_of (n := 17) Tryz.func84 rfl rfl (Nat.le_of_ble_eq_true rfl) fun C hdm hT0 => ?_
 have hT := hT0
 refine AC_seq fun K1 hK1 => ?_
 refine AC_region ?_
 refine AL_box (Lay.st [.one, .one, .one, .one]) (nf rfl) rfl (by simp [Lay.len, Lay.lens]) _ rfl rfl ?_
 refine AL_alloc zo54 _ rfl rfl ?_
 refine AL_ev (Ev_assign) rfl ?_
 refine AL_nil ?_
 refine hK1 _ _ _ ?_
 refine AC_seq fun K2 hK2 => ?_
 refine AC_region ?_
 refine AL_ev (Ev_load_ptr rfl rfl rfl rfl rfl rfl ts41 ta41 (by simp) (by intro h; cases h)) rfl ?_
 refine AL_ev (Ev_move) rfl ?_
 refine AL_fcall0 hT rfl cl112 (c_clOfRaw t f hb) rfl rfl ?_
 refine AL_ev (Ev_move) rfl ?_
 refine AL_ev (Ev_extract rfl rfl) rfl ?_
 refine AL_ev (Ev_extract rfl rfl) rfl ?_
 refine AL_alloc zo54 _ rfl rfl ?_
 refine AL_store rfl (nf rfl) rfl rfl rfl rfl rfl rfl (by rfl) ts54 rfl rfl ?_
 refine AL_ev (Ev_assign) rfl ?_
 refine AL_nil ?_
 refine hK2 _ _ _ ?_
 refine AC_seq fun K3 hK3 => ?_
 refine AC_region ?_
 refine AL_ev (Ev_load_ptr rfl rfl rfl rfl rfl rfl ts54 ta54 (by rfl) (by intro h; cases h)) rfl ?_
 refine AL_fcall0 hT rfl cl113 (c_l34Clause (clOf t f).1) rfl rfl ?_
 refine AL_ev (Ev_move) rfl ?_
 refine AL_store rfl (nf rfl) rfl rfl rfl rfl rfl rfl (by rfl) ts54 rfl rfl ?_
 refine AL_ev (Ev_assign) rfl ?_
 refine AL_nil ?_
 refine hK3 _ _ _ ?_
 refine AC_ret ?_
 exact ret_ok hdm (.cell rfl rfl rfl rfl rfl rfl ts54 ta54 (by rfl) (by intro h; cases h) (.tmp rfl rfl .nil)) (.cons .d (.cons .d .nil)) rfl
theorem c_readTermR (t : ByteArray) (hs : t.size ≤ 3000) : PCall Tryz.prog 82 [.c (.string t)] (fun ds => ∃ (u : T) (e : D) (b : Bool), ds = [inj u, e, .c (.bool b)] ∧ bulk u ≤ 64 * ((t.size : Int) + 2) ∧ (u, b) = readM t) :=
 (c_readTerm t hs).mono fun ds ⟨e, h⟩ => ⟨_, e, _, h, readM_bulk t hs, rfl⟩
theorem c_clauseOfR (t : T) (f : ByteArray) (hb : bulk t ≤ 1099511627770) : PCall Tryz.prog 84 [inj t, .c (.string f)] (fun ds => ∃ (c : Cl) (b : Bool), ds = [injC c, .c (.bool b)] ∧ bulkC c ≤ bulk t + 5 + f.size ∧ (c, b) = clOf t f) :=
 (c_clauseOf t f hb).mono fun ds h => ⟨_, _, h, clOf_bulk t f, rfl⟩
theorem c_addedR (d : Dbt) (c : Cl) (hl : d.cs.length ≤ 1048576) (ho : d.op.length ≤ 1048576) (hb : bulkD ⟨d.cs ++ [c], d.op⟩ ≤ 1099511627775) : PCall Tryz.prog 85 [injD d, injC c] (fun ds => ∃ (d2 : Dbt) (b : Bool), ds = [injD d2, .c (.bool b)] ∧ (d2, b) = addM d c ∧ bulkD d2 ≤ bulkD d + 1 + bulkC c ∧ d2.cs.length ≤ d.cs.length + 1 ∧ d2.op = d.op) :=
 (c_added d c hl ho hb).mono fun ds h => ⟨_, _, h, rfl, addM_bulk d.cs d.op c, (addM_len d c).1, (addM_len d c).2⟩
set_option maxHeartbeats 1000000 in
set_option maxRecDepth 4000 in
theorem c_l23Lines  : PCall Tryz.prog 80 [] (fun ds => ∃ ls : List ByteArray, ds = [.sl .one (strs ls)] ∧ 0 < ls.length ∧ ∀ s ∈ ls, s.size ≤ 60) := by
 refine PCall_of (n := 2) Tryz.func80 rfl rfl (Nat.le_of_ble_eq_true rfl) fun C hdm hT0 => ?_
 have hT := hT0
 refine AC_seq fun K1 hK1 => ?_
 refine AC_region ?_
 refine AL_ev (Ev_assign) rfl ?_
 refine AL_nil ?_
 refine hK1 _ _ _ ?_
 refine AC_seq fun K2 hK2 => ?_
 refine AC_region ?_
 refine AL_bD .one rfl te25 ts9 tz9 rfl rfl (by decide) (by decide) (by rfl) rfl ?_
 refine AL_ev (Ev_assign) rfl ?_
 refine AL_nil ?_
 refine hK2 _ _ _ ?_
 refine AC_ret ?_
 exact ret_ok hdm (.tmp rfl rfl .nil) (.cons .d .nil) ⟨[⟨#[97, 32, 58, 45, 32, 98, 44, 32, 92, 43, 32, 99]⟩, ⟨#[98, 32, 58, 45, 32, 100, 32, 59, 32, 101]⟩, ⟨#[99, 32, 58, 45, 32, 99, 97, 108, 108, 40, 100, 41]⟩, ⟨#[100]⟩, ⟨#[101, 32, 58, 45, 32, 40, 102, 32, 45, 62, 32, 103, 32, 59, 32, 104, 41]⟩, ⟨#[102, 32, 58, 45, 32, 92, 43, 32, 97]⟩, ⟨#[103, 32, 58, 45, 32, 99, 97, 116, 99, 104, 40, 120, 44, 32, 95, 44, 32, 121, 41]⟩, ⟨#[104, 32, 58, 45, 32, 104]⟩, ⟨#[107, 40, 88, 41, 32, 58, 45, 32, 112, 40, 88, 41, 44, 32, 92, 43, 32, 107, 40, 88, 41]⟩, ⟨#[120]⟩, ⟨#[121, 32, 58, 45, 32, 88, 44, 32, 99, 97, 108, 108, 40, 88, 41]⟩, ⟨#[109, 32, 58, 45, 32, 92, 43, 32, 92, 43, 32, 100, 44, 32, 99]⟩], rfl, by decide, by decide⟩
set_option maxHeartbeats 1000000 in
set_option maxRecDepth 4000 in
theorem c_l08Lines  : PCall Tryz.prog 81 [] (fun ds => ∃ ls : List ByteArray, ds = [.sl .one (strs ls)] ∧ (0 < ls.length ∧ ∀ s ∈ ls, s.size ≤ 60) ∧ ls.length = 29 ∧ ls[0]? = some ⟨#[112, 40, 97, 41]⟩) := by
 refine PCall_of (n := 2) Tryz.func81 rfl rfl (Nat.le_of_ble_eq_true rfl) fun C hdm hT0 => ?_
 have hT := hT0
 refine AC_seq fun K1 hK1 => ?_
 refine AC_region ?_
 refine AL_ev (Ev_assign) rfl ?_
 refine AL_nil ?_
 refine hK1 _ _ _ ?_
 refine AC_seq fun K2 hK2 => ?_
 refine AC_region ?_
 refine AL_bD .one rfl te25 ts9 tz9 rfl rfl (by decide) (by decide) (by rfl) rfl ?_
 refine AL_ev (Ev_assign) rfl ?_
 refine AL_nil ?_
 refine hK2 _ _ _ ?_
 refine AC_ret ?_
 exact ret_ok hdm (.tmp rfl rfl .nil) (.cons .d .nil) ⟨[⟨#[112, 40, 97, 41]⟩, ⟨#[112, 40, 98, 41]⟩, ⟨#[112, 40, 99, 41]⟩, ⟨#[113, 40, 88, 41, 32, 58, 45, 32, 112, 40, 88, 41]⟩, ⟨#[113, 40, 122, 41]⟩, ⟨#[114, 40, 88, 44, 32, 89, 41, 32, 58, 45, 32, 112, 40, 88, 41, 44, 32, 113, 40, 89, 41]⟩, ⟨#[97, 112, 112, 40, 91, 93, 44, 32, 76, 44, 32, 76, 41]⟩, ⟨#[97, 112, 112, 40, 91, 72, 124, 84, 93, 44, 32, 76, 44, 32, 91, 72, 124, 82, 93, 41, 32, 58, 45, 32, 97, 112, 112, 40, 84, 44, 32, 76, 44, 32, 82, 41]⟩, ⟨#[108, 101, 110, 40, 91, 93, 44, 32, 48, 41]⟩, ⟨#[108, 101, 110, 40, 91, 95, 124, 84, 93, 44, 32, 78, 41, 32, 58, 45, 32, 108, 101, 110, 40, 84, 44, 32, 77, 41, 44, 32, 78, 32, 105, 115, 32, 77, 32, 43, 32, 49]⟩, ⟨#[115, 40, 88, 41, 32, 58, 45, 32, 112, 40, 88, 41, 44, 32, 33]⟩, ⟨#[115, 40, 122, 41]⟩, ⟨#[116, 40, 88, 41, 32, 58, 45, 32, 40, 112, 40, 88, 41, 32, 45, 62, 32, 116, 114, 117, 101, 32, 59, 32, 88, 32, 61, 32, 110, 111, 110, 101, 41]⟩, ⟨#[117, 40, 88, 41, 32, 58, 45, 32, 92, 43, 32, 112, 40, 88, 41]⟩, ⟨#[119, 40, 88, 41, 32, 58, 45, 32, 112, 40, 88, 41, 44, 32, 119, 114, 105, 116, 101, 40, 88, 41]⟩, ⟨#[99, 40, 88, 41, 32, 58, 45, 32, 99, 97, 116, 99, 104, 40, 112, 40, 88, 41, 44, 32, 95, 44, 32, 116, 114, 117, 101, 41]⟩, ⟨#[101, 40, 88, 41, 32, 58, 45, 32, 99, 97, 116, 99, 104, 40, 116, 104, 114, 111, 119, 40, 88, 41, 44, 32, 89, 44, 32, 119, 114, 105, 116, 101, 40, 89, 41, 41]⟩, ⟨#[110, 40, 88, 41, 32, 58, 45, 32, 88, 32, 105, 115, 32, 51, 32, 47, 47, 32, 48]⟩, ⟨#[109, 40, 88, 41, 32, 58, 45, 32, 99, 97, 116, 99, 104, 40, 110, 40, 88, 41, 44, 32, 101, 114, 114, 111, 114, 40, 69, 44, 32, 95, 41, 44, 32, 40, 88, 32, 61, 32, 69, 41, 41]⟩, ⟨#[97, 100, 100, 40, 88, 41, 32, 58, 45, 32, 97, 115, 115, 101, 114, 116, 122, 40, 112, 40, 88, 41, 41]⟩, ⟨#[100, 101, 108, 40, 88, 41, 32, 58, 45, 32, 114, 101, 116, 114, 97, 99, 116, 40, 112, 40, 88, 41, 41]⟩, ⟨#[108, 111, 111, 112, 32, 58, 45, 32, 108, 111, 111, 112]⟩, ⟨#[118, 40, 88, 41, 32, 58, 45, 32, 99, 97, 108, 108, 40, 112, 44, 32, 88, 41]⟩, ⟨#[100, 40, 88, 44, 32, 89, 41, 32, 58, 45, 32, 88, 32, 61, 32, 89, 32, 59, 32, 89, 32, 61, 32, 98]⟩, ⟨#[103, 40, 102, 40, 88, 41, 44, 32, 88, 41]⟩, ⟨#[103, 40, 104, 40, 88, 41, 44, 32, 88, 41]⟩, ⟨#[103, 40, 49, 44, 32, 111, 110, 101, 41]⟩, ⟨#[107, 40, 88, 41, 32, 58, 45, 32, 117, 110, 107, 110, 111, 119, 110, 40, 88, 41]⟩, ⟨#[121, 40, 88, 41, 32, 58, 45, 32, 112, 40, 88, 41, 44, 32, 97, 115, 115, 101, 114, 116, 122, 40, 112, 40, 100, 41, 41, 44, 32, 88, 32, 61, 32, 98]⟩], rfl, ⟨by decide, by decide⟩, rfl, rfl⟩
set_option maxHeartbeats 4000000 in
set_option maxRecDepth 4000 in
theorem c_l23Db  : DCall Tryz.prog 39 [] (fun r => ∃ d : Dbt, r = injD d ∧ bulkD d ≤ 300000 ∧ d.cs.length ≤ 12 ∧ d.op = []) := by
 refine DCall_of (n := 48) Tryz.func39 rfl rfl (Nat.le_of_ble_eq_true rfl) fun C0 b bs hdm hbl hT hcu => ?_
 have hM := Mk.refl C0 [b]
 refine AC_seq fun K1 hK1 => ?_
 refine AC_region ?_
 refine AL_alloc zo27 _ rfl rfl ?_
 refine AL_nil ?_
 refine hK1 _ _ _ ?_
 refine AC_seq fun K2 hK2 => ?_
 refine AC_region ?_
 refine AL_ev (Ev_buildD (fs := [.one, .one]) (zs := [.c (.slice none 0 0), .c (.slice none 0 0)]) tz27 rfl tpl27 .nil rfl) rfl ?_
 refine AL_wk (Wk_conv 11 rfl zD_le ?_)
 refine AL_alloc zo27 _ rfl rfl ?_
 refine AL_store rfl (nf rfl) rfl rfl rfl rfl rfl rfl (by rfl) ts27 rfl rfl ?_
 refine AL_nil ?_
 refine hK2 _ _ _ ?_
 refine AC_seq fun K3 hK3 => ?_
 refine AC_region ?_
 refine AL_pcall0 hT rfl cl80 c_l23Lines rfl rfl ?_
 rintro _ ⟨lsA, rfl, hA0, hAz⟩
 refine AL_ev (Ev_assign) rfl ?_
 refine AL_nil ?_
 refine hK3 _ _ _ ?_
 refine AC_seq fun K4 hK4 => ?_
 refine AC_seq fun K5 hK5 => ?_
 refine AC_region ?_
 refine AL_ev (Ev_move) rfl ?_
 refine AL_dcall hT hcu hbl rfl cl56 (c_onceD 2 (by omega)) rfl rfl rfl fun C1 r1 hR1 hM1 hcu hT => ?_
 have hM := hM.trans hM1 (fun c hc _ => hc)
 obtain ⟨x1, rfl⟩ := hR1
 refine AL_nil ?_
 refine hK5 _ _ _ ?_
 refine AC_cond rfl (fun hc1 => ?_) (fun hc1 => ?_)
 ·refine AC_region ?_
  refine AL_pcall0 hT rfl cl81 c_l08Lines rfl rfl ?_
  rintro _ ⟨lsB, rfl, ⟨hB0, hBz⟩, hB1, hB2⟩
  refine Exists.elim (show ∃ ls : List ByteArray, ls = lsB from ⟨_, rfl⟩) fun ls hls => ?_
  have hl0 : 0 < ls.length := by rw [hls]; exact hB0
  have hlz : ∀ s ∈ ls, s.size ≤ 60 := by rw [hls]; exact hBz
  refine AL_ev (Ev_assign) rfl ?_
  refine AL_nil ?_
  refine hK4 _ _ _ ?_
  refine AC_seq fun K6 hK6 => ?_
  refine AC_seq fun K7 hK7 => ?_
  refine AC_region ?_
  refine AL_ev (Ev_assign) rfl ?_
  refine AL_nil ?_
  refine hK7 _ _ _ ?_
  refine AC_block ?_
  refine AC_loopX (Nat × Dbt) (fun q => [(5, i64 ((q.1 : Nat) : Int)), (4, .d (.sl .one (strs ls)))]) (fun q => [some ⟨27, LD, [.d zDb]⟩, some ⟨27, LD, [.d (injD q.2)]⟩]) (fun q => 13 - q.1) (fun C q => CurC C b bs ∧ Mk C0 [b] C ∧ CT Tryz.prog C ∧ (q.1 ≤ 12 ∧ bulkD q.2 ≤ 20000 * (q.1 : Int) ∧ q.2.cs.length ≤ q.1 ∧ q.2.op = [])) [0, 2, 3] ?_ ?_
  ·exact enterX (0, ⟨[], []⟩) [some 0, some 1] rfl rfl ⟨hcu, hM, hT, Nat.zero_le _, by decide, Nat.zero_le _, rfl⟩ (BxTo_some rfl rfl rfl rfl (.cons (.rd .d) .nil) (BxTo_some rfl rfl rfl rfl (.cons (.rd .d) .nil) BxTo_nil)) (SlTo_cons (by exact .rd .d) (SlTo_cons (by (rw [hls]; exact .rd .d)) (SlTo_cons (by exact .rd .d) (SlTo_cons (by exact .ptr rfl) (SlTo_cons (by exact .ptr rfl) SlTo_nil)))))
  rintro CL ⟨j, ⟨cs, op⟩⟩ ⟨hcu, hM, hT, hj, hbd, hcl, hop⟩
  simp only at hj hbd hcl hop
  refine AC_seq fun K8 hK8 => ?_
  refine AC_seq fun K9 hK9 => ?_
  refine AC_region ?_
  refine AL_ev (Ev_move) rfl ?_
  refine AL_ev (Ev_move) rfl ?_
  refine AL_dcall hT hcu hbl rfl cl59 (c_below 10 (by omega)) rfl rfl rfl fun C2 r2 hR2 hM2 hcu hT => ?_
  have hM := hM.trans hM2 (fun c hc _ => hc)
  obtain ⟨x0, rfl, hx0, hy0⟩ := hR2
  refine AL_ev (Ev_add rfl rfl _ (wrap_id (by omega) (by omega))) rfl ?_
  refine AL_ev (Ev_lss rfl rfl) rfl ?_
  refine AL_nil ?_
  refine hK9 _ _ _ ?_
  refine AC_cond rfl (fun hc2 => ?_) (fun hc2 => ?_)
  ·have hj3 : j < 12 := by have := of_decide_eq_true hc2; omega
   have h3s : (⟨#[111, 110, 101]⟩ : ByteArray).size = 3 := rfl
   refine AC_skip ?_
   refine hK8 _ _ _ ?_
   refine AC_seq fun K10 hK10 => ?_
   refine AC_block ?_
   refine AC_seq fun K11 hK11 => ?_
   refine AC_region ?_
   refine AL_ev (Ev_move) rfl ?_
   refine AL_ev (Ev_move) rfl ?_
   refine AL_dcall hT hcu hbl rfl cl83 (c_pick ls hl0) rfl rfl rfl fun C3 r3 hR3 hM3 hcu hT => ?_
   have hM := hM.trans hM3 (fun c hc _ => hc)
   obtain ⟨s0, hs0, rfl⟩ := hR3
   have hz0 := hlz s0 hs0
   have h2s : (⟨#[32, 46]⟩ : ByteArray).size = 2 := rfl
   have hsz : (s0 ++ ⟨#[32, 46]⟩).size ≤ 62 := by rw [ByteArray.size_append]; omega
   refine AL_ev (Ev_sadd rfl rfl (by omega)) rfl ?_
   refine AL_pcall0 hT rfl cl82 (c_readTermR (s0 ++ ⟨#[32, 46]⟩) (by omega)) rfl rfl ?_
   rintro _ ⟨t9, e9, b9, rfl, hbt, hr9⟩
   refine AL_ev (Ev_move) rfl ?_
   refine AL_ev (Ev_extract rfl rfl) rfl ?_
   refine AL_ev (Ev_extract rfl rfl) rfl ?_
   refine AL_ev (Ev_extract rfl rfl) rfl ?_
   refine AL_alloc zo41 _ rfl rfl ?_
   refine AL_store rfl (nf rfl) rfl rfl rfl rfl rfl rfl (by simp [Lay.len, Lay.lens]) ts41 rfl rfl ?_
   refine AL_ev (Ev_assign) rfl ?_
   refine AL_ev (Ev_assign) rfl ?_
   refine AL_nil ?_
   refine hK11 _ _ _ ?_
   refine AC_seq fun K12 hK12 => ?_
   refine AC_region ?_
   refine AL_ev (Ev_load_ptr rfl rfl rfl rfl rfl rfl ts41 ta41 (by simp) (by intro h; cases h)) rfl ?_
   refine AL_pcall0 hT rfl cl84 (c_clauseOfR t9 ⟨#[111, 110, 101]⟩ (by omega)) rfl rfl ?_
   rintro _ ⟨⟨ch, cb, cf⟩, bc, rfl, hbc, hc9⟩
   refine AL_ev (Ev_move) rfl ?_
   refine AL_ev (Ev_extract rfl rfl) rfl ?_
   refine AL_ev (Ev_extract rfl rfl) rfl ?_
   refine AL_alloc zo54 _ rfl rfl ?_
   refine AL_store rfl (nf rfl) rfl rfl rfl rfl rfl rfl (by rfl) ts54 rfl rfl ?_
   refine AL_ev (Ev_assign) rfl ?_
   refine AL_nil ?_
   refine hK12 _ _ _ ?_
   refine AC_seq fun K13 hK13 => ?_
   refine AC_region ?_
   refine AL_ev (Ev_move) rfl ?_
   refine AL_ev (Ev_move) rfl ?_
   refine AL_bool 38 rfl (fun hg3 => ?_) (fun hg3 => ?_)
   ·refine AL_guard_t rfl rfl rfl ?_
    refine AL_ev (Ev_move) rfl ?_
    refine AL_ev (Ev_pick rfl) rfl ?_
    refine AL_nil ?_
    refine hK13 _ _ _ ?_
    refine AC_cond rfl (fun hc4 => ?_) (fun hc4 => ?_)
    ·refine AC_region ?_
     refine AL_ev (Ev_load_ptr rfl rfl rfl rfl rfl rfl ts27 ta27 (by rfl) (by intro h; cases h)) rfl ?_
     refine AL_ev (Ev_load_ptr rfl rfl rfl rfl rfl rfl ts54 ta54 (by rfl) (by intro h; cases h)) rfl ?_
     refine AL_pcall0 hT rfl cl85 (c_addedR ⟨cs, op⟩ ⟨ch, cb, cf⟩ (by show cs.length ≤ 1048576; omega) (by show op.length ≤ 1048576; rw [hop]; decide) (by show bulkD ⟨cs ++ [⟨ch, cb, cf⟩], op⟩ ≤ _; rw [bulkD_app]; omega)) rfl rfl ?_
     rintro _ ⟨⟨cs2, op2⟩, bd, rfl, ha9, hbd2, hcl2, hop2⟩
     refine AL_ev (Ev_move) rfl ?_
     refine AL_ev (Ev_extract rfl rfl) rfl ?_
     refine AL_ev (Ev_extract rfl rfl) rfl ?_
     refine AL_store rfl (nf rfl) rfl rfl rfl rfl rfl rfl (by rfl) ts27 rfl rfl ?_
     refine AL_nil ?_
     refine hK10 _ _ _ ?_
     refine AC_region ?_
     refine AL_ev (Ev_move) rfl ?_
     refine AL_ev (Ev_add rfl rfl _ (wrap_id (by omega) (by omega))) rfl ?_
     refine AL_ev (Ev_assign) rfl ?_
     refine AL_nil ?_
     refine closeX (j + 1, ⟨cs2, op2⟩) [some 0, some 1] rfl rfl (by show 13 - (j + 1) < 13 - j; omega) ⟨hcu, hM, hT, by show j + 1 ≤ 12; omega, by show bulkD ⟨cs2, op2⟩ ≤ 20000 * ((j + 1 : Nat) : Int); omega, by show cs2.length ≤ j + 1; simp only at hcl2; omega, hop2.trans hop⟩ (BxTo_some rfl rfl rfl rfl (.cons (.rd .d) .nil) (BxTo_some rfl rfl rfl rfl (.cons (.rd .d) .nil) BxTo_nil)) (SlTo_cons (by exact .rd .d) (SlTo_cons (by exact .rd .d) (SlTo_cons (by exact .rd .d) (SlTo_cons (by exact .ptr rfl) (SlTo_cons (by exact .ptr rfl) SlTo_nil)))))
    ·refine AC_skip ?_
     refine hK10 _ _ _ ?_
     refine AC_region ?_
     refine AL_ev (Ev_move) rfl ?_
     refine AL_ev (Ev_add rfl rfl _ (wrap_id (by omega) (by omega))) rfl ?_
     refine AL_ev (Ev_assign) rfl ?_
     refine AL_nil ?_
     refine closeX (j + 1, ⟨cs, op⟩) [some 0, some 1] rfl rfl (by show 13 - (j + 1) < 13 - j; omega) ⟨hcu, hM, hT, by show j + 1 ≤ 12; omega, by show bulkD ⟨cs, op⟩ ≤ 20000 * ((j + 1 : Nat) : Int); omega, by show cs.length ≤ j + 1; omega, hop⟩ (BxTo_some rfl rfl rfl rfl (.cons (.rd .d) .nil) (BxTo_some rfl rfl rfl rfl (.cons (.rd .d) .nil) BxTo_nil)) (SlTo_cons (by exact .rd .d) (SlTo_cons (by exact .rd .d) (SlTo_cons (by exact .rd .d) (SlTo_cons (by exact .ptr rfl) (SlTo_cons (by exact .ptr rfl) SlTo_nil)))))
   ·refine AL_guard_f rfl rfl rfl rfl ?_
    refine AL_ev (Ev_pick rfl) rfl ?_
    refine AL_nil ?_
    refine hK13 _ _ _ ?_
    refine AC_cond_f rfl ?_
    refine AC_skip ?_
    refine hK10 _ _ _ ?_
    refine AC_region ?_
    refine AL_ev (Ev_move) rfl ?_
    refine AL_ev (Ev_add rfl rfl _ (wrap_id (by omega) (by omega))) rfl ?_
    refine AL_ev (Ev_assign) rfl ?_
    refine AL_nil ?_
    refine closeX (j + 1, ⟨cs, op⟩) [some 0, some 1] rfl rfl (by show 13 - (j + 1) < 13 - j; omega) ⟨hcu, hM, hT, by show j + 1 ≤ 12; omega, by show bulkD ⟨cs, op⟩ ≤ 20000 * ((j + 1 : Nat) : Int); omega, by show cs.length ≤ j + 1; omega, hop⟩ (BxTo_some rfl rfl rfl rfl (.cons (.rd .d) .nil) (BxTo_some rfl rfl rfl rfl (.cons (.rd .d) .nil) BxTo_nil)) (SlTo_cons (by exact .rd .d) (SlTo_cons (by exact .rd .d) (SlTo_cons (by exact .rd .d) (SlTo_cons (by exact .ptr rfl) (SlTo_cons (by exact .ptr rfl) SlTo_nil)))))
  ·refine AC_exit ?_
   refine hK6 _ _ _ ?_
   refine AC_seq fun K14 hK14 => ?_
   refine AC_region ?_
   refine AL_ev (Ev_load_ptr rfl rfl rfl rfl rfl rfl ts27 ta27 (by rfl) (by intro h; cases h)) rfl ?_
   refine AL_store rfl (nf rfl) rfl rfl rfl rfl rfl rfl (by rfl) ts27 rfl rfl ?_
   refine AL_nil ?_
   refine hK14 _ _ _ ?_
   refine AC_ret ?_
   exact retd_ok hM hcu hdm (.cell rfl rfl rfl rfl rfl rfl ts27 ta27 (by rfl) (by intro h; cases h) .nil) .d ⟨⟨cs, op⟩, rfl, by omega, by show cs.length ≤ 12; omega, hop⟩
 ·refine Exists.elim (show ∃ ls : List ByteArray, ls = lsA from ⟨_, rfl⟩) fun ls hls => ?_
  have hl0 : 0 < ls.length := by rw [hls]; exact hA0
  have hlz : ∀ s ∈ ls, s.size ≤ 60 := by rw [hls]; exact hAz
  refine AC_skip ?_
  refine hK4 _ _ _ ?_
  refine AC_seq fun K15 hK15 => ?_
  refine AC_seq fun K16 hK16 => ?_
  refine AC_region ?_
  refine AL_ev (Ev_assign) rfl ?_
  refine AL_nil ?_
  refine hK16 _ _ _ ?_
  refine AC_block ?_
  refine AC_loopX (Nat × Dbt) (fun q => [(5, i64 ((q.1 : Nat) : Int)), (4, .d (.sl .one (strs ls)))]) (fun q => [some ⟨27, LD, [.d zDb]⟩, some ⟨27, LD, [.d (injD q.2)]⟩]) (fun q => 13 - q.1) (fun C q => CurC C b bs ∧ Mk C0 [b] C ∧ CT Tryz.prog C ∧ (q.1 ≤ 12 ∧ bulkD q.2 ≤ 20000 * (q.1 : Int) ∧ q.2.cs.length ≤ q.1 ∧ q.2.op = [])) [0, 2, 3] ?_ ?_
  ·exact enterX (0, ⟨[], []⟩) [some 0, some 1] rfl rfl ⟨hcu, hM, hT, Nat.zero_le _, by decide, Nat.zero_le _, rfl⟩ (BxTo_some rfl rfl rfl rfl (.cons (.rd .d) .nil) (BxTo_some rfl rfl rfl rfl (.cons (.rd .d) .nil) BxTo_nil)) (SlTo_cons (by exact .rd .d) (SlTo_cons (by (rw [hls]; exact .rd .d)) (SlTo_cons (by exact .rd .d) (SlTo_cons (by exact .ptr rfl) (SlTo_cons (by exact .ptr rfl) SlTo_nil)))))
  rintro CL ⟨j, ⟨cs, op⟩⟩ ⟨hcu, hM, hT, hj, hbd, hcl, hop⟩
  simp only at hj hbd hcl hop
  refine AC_seq fun K17 hK17 => ?_
  refine AC_seq fun K18 hK18 => ?_
  refine AC_region ?_
  refine AL_ev (Ev_move) rfl ?_
  refine AL_ev (Ev_move) rfl ?_
  refine AL_dcall hT hcu hbl rfl cl59 (c_below 10 (by omega)) rfl rfl rfl fun C4 r4 hR4 hM4 hcu hT => ?_
  have hM := hM.trans hM4 (fun c hc _ => hc)
  obtain ⟨x0, rfl, hx0, hy0⟩ := hR4
  refine AL_ev (Ev_add rfl rfl _ (wrap_id (by omega) (by omega))) rfl ?_
  refine AL_ev (Ev_lss rfl rfl) rfl ?_
  refine AL_nil ?_
  refine hK18 _ _ _ ?_
  refine AC_cond rfl (fun hc5 => ?_) (fun hc5 => ?_)
  ·have hj3 : j < 12 := by have := of_decide_eq_true hc5; omega
   have h3s : (⟨#[111, 110, 101]⟩ : ByteArray).size = 3 := rfl
   refine AC_skip ?_
   refine hK17 _ _ _ ?_
   refine AC_seq fun K19 hK19 => ?_
   refine AC_block ?_
   refine AC_seq fun K20 hK20 => ?_
   refine AC_region ?_
   refine AL_ev (Ev_move) rfl ?_
   refine AL_ev (Ev_move) rfl ?_
   refine AL_dcall hT hcu hbl rfl cl83 (c_pick ls hl0) rfl rfl rfl fun C5 r5 hR5 hM5 hcu hT => ?_
   have hM := hM.trans hM5 (fun c hc _ => hc)
   obtain ⟨s0, hs0, rfl⟩ := hR5
   have hz0 := hlz s0 hs0
   have h2s : (⟨#[32, 46]⟩ : ByteArray).size = 2 := rfl
   have hsz : (s0 ++ ⟨#[32, 46]⟩).size ≤ 62 := by rw [ByteArray.size_append]; omega
   refine AL_ev (Ev_sadd rfl rfl (by omega)) rfl ?_
   refine AL_pcall0 hT rfl cl82 (c_readTermR (s0 ++ ⟨#[32, 46]⟩) (by omega)) rfl rfl ?_
   rintro _ ⟨t9, e9, b9, rfl, hbt, hr9⟩
   refine AL_ev (Ev_move) rfl ?_
   refine AL_ev (Ev_extract rfl rfl) rfl ?_
   refine AL_ev (Ev_extract rfl rfl) rfl ?_
   refine AL_ev (Ev_extract rfl rfl) rfl ?_
   refine AL_alloc zo41 _ rfl rfl ?_
   refine AL_store rfl (nf rfl) rfl rfl rfl rfl rfl rfl (by simp [Lay.len, Lay.lens]) ts41 rfl rfl ?_
   refine AL_ev (Ev_assign) rfl ?_
   refine AL_ev (Ev_assign) rfl ?_
   refine AL_nil ?_
   refine hK20 _ _ _ ?_
   refine AC_seq fun K21 hK21 => ?_
   refine AC_region ?_
   refine AL_ev (Ev_load_ptr rfl rfl rfl rfl rfl rfl ts41 ta41 (by simp) (by intro h; cases h)) rfl ?_
   refine AL_pcall0 hT rfl cl84 (c_clauseOfR t9 ⟨#[111, 110, 101]⟩ (by omega)) rfl rfl ?_
   rintro _ ⟨⟨ch, cb, cf⟩, bc, rfl, hbc, hc9⟩
   refine AL_ev (Ev_move) rfl ?_
   refine AL_ev (Ev_extract rfl rfl) rfl ?_
   refine AL_ev (Ev_extract rfl rfl) rfl ?_
   refine AL_alloc zo54 _ rfl rfl ?_
   refine AL_store rfl (nf rfl) rfl rfl rfl rfl rfl rfl (by rfl) ts54 rfl rfl ?_
   refine AL_ev (Ev_assign) rfl ?_
   refine AL_nil ?_
   refine hK21 _ _ _ ?_
   refine AC_seq fun K22 hK22 => ?_
   refine AC_region ?_
   refine AL_ev (Ev_move) rfl ?_
   refine AL_ev (Ev_move) rfl ?_
   refine AL_bool 38 rfl (fun hg6 => ?_) (fun hg6 => ?_)
   ·refine AL_guard_t rfl rfl rfl ?_
    refine AL_ev (Ev_move) rfl ?_
    refine AL_ev (Ev_pick rfl) rfl ?_
    refine AL_nil ?_
    refine hK22 _ _ _ ?_
    refine AC_cond rfl (fun hc7 => ?_) (fun hc7 => ?_)
    ·refine AC_region ?_
     refine AL_ev (Ev_load_ptr rfl rfl rfl rfl rfl rfl ts27 ta27 (by rfl) (by intro h; cases h)) rfl ?_
     refine AL_ev (Ev_load_ptr rfl rfl rfl rfl rfl rfl ts54 ta54 (by rfl) (by intro h; cases h)) rfl ?_
     refine AL_pcall0 hT rfl cl85 (c_addedR ⟨cs, op⟩ ⟨ch, cb, cf⟩ (by show cs.length ≤ 1048576; omega) (by show op.length ≤ 1048576; rw [hop]; decide) (by show bulkD ⟨cs ++ [⟨ch, cb, cf⟩], op⟩ ≤ _; rw [bulkD_app]; omega)) rfl rfl ?_
     rintro _ ⟨⟨cs2, op2⟩, bd, rfl, ha9, hbd2, hcl2, hop2⟩
     refine AL_ev (Ev_move) rfl ?_
     refine AL_ev (Ev_extract rfl rfl) rfl ?_
     refine AL_ev (Ev_extract rfl rfl) rfl ?_
     refine AL_store rfl (nf rfl) rfl rfl rfl rfl rfl rfl (by rfl) ts27 rfl rfl ?_
     refine AL_nil ?_
     refine hK19 _ _ _ ?_
     refine AC_region ?_
     refine AL_ev (Ev_move) rfl ?_
     refine AL_ev (Ev_add rfl rfl _ (wrap_id (by omega) (by omega))) rfl ?_
     refine AL_ev (Ev_assign) rfl ?_
     refine AL_nil ?_
     refine closeX (j + 1, ⟨cs2, op2⟩) [some 0, some 1] rfl rfl (by show 13 - (j + 1) < 13 - j; omega) ⟨hcu, hM, hT, by show j + 1 ≤ 12; omega, by show bulkD ⟨cs2, op2⟩ ≤ 20000 * ((j + 1 : Nat) : Int); omega, by show cs2.length ≤ j + 1; simp only at hcl2; omega, hop2.trans hop⟩ (BxTo_some rfl rfl rfl rfl (.cons (.rd .d) .nil) (BxTo_some rfl rfl rfl rfl (.cons (.rd .d) .nil) BxTo_nil)) (SlTo_cons (by exact .rd .d) (SlTo_cons (by exact .rd .d) (SlTo_cons (by exact .rd .d) (SlTo_cons (by exact .ptr rfl) (SlTo_cons (by exact .ptr rfl) SlTo_nil)))))
    ·refine AC_skip ?_
     refine hK19 _ _ _ ?_
     refine AC_region ?_
     refine AL_ev (Ev_move) rfl ?_
     refine AL_ev (Ev_add rfl rfl _ (wrap_id (by omega) (by omega))) rfl ?_
     refine AL_ev (Ev_assign) rfl ?_
     refine AL_nil ?_
     refine closeX (j + 1, ⟨cs, op⟩) [some 0, some 1] rfl rfl (by show 13 - (j + 1) < 13 - j; omega) ⟨hcu, hM, hT, by show j + 1 ≤ 12; omega, by show bulkD ⟨cs, op⟩ ≤ 20000 * ((j + 1 : Nat) : Int); omega, by show cs.length ≤ j + 1; omega, hop⟩ (BxTo_some rfl rfl rfl rfl (.cons (.rd .d) .nil) (BxTo_some rfl rfl rfl rfl (.cons (.rd .d) .nil) BxTo_nil)) (SlTo_cons (by exact .rd .d) (SlTo_cons (by exact .rd .d) (SlTo_cons (by exact .rd .d) (SlTo_cons (by exact .ptr rfl) (SlTo_cons (by exact .ptr rfl) SlTo_nil)))))
   ·refine AL_guard_f rfl rfl rfl rfl ?_
    refine AL_ev (Ev_pick rfl) rfl ?_
    refine AL_nil ?_
    refine hK22 _ _ _ ?_
    refine AC_cond_f rfl ?_
    refine AC_skip ?_
    refine hK19 _ _ _ ?_
    refine AC_region ?_
    refine AL_ev (Ev_move) rfl ?_
    refine AL_ev (Ev_add rfl rfl _ (wrap_id (by omega) (by omega))) rfl ?_
    refine AL_ev (Ev_assign) rfl ?_
    refine AL_nil ?_
    refine closeX (j + 1, ⟨cs, op⟩) [some 0, some 1] rfl rfl (by show 13 - (j + 1) < 13 - j; omega) ⟨hcu, hM, hT, by show j + 1 ≤ 12; omega, by show bulkD ⟨cs, op⟩ ≤ 20000 * ((j + 1 : Nat) : Int); omega, by show cs.length ≤ j + 1; omega, hop⟩ (BxTo_some rfl rfl rfl rfl (.cons (.rd .d) .nil) (BxTo_some rfl rfl rfl rfl (.cons (.rd .d) .nil) BxTo_nil)) (SlTo_cons (by exact .rd .d) (SlTo_cons (by exact .rd .d) (SlTo_cons (by exact .rd .d) (SlTo_cons (by exact .ptr rfl) (SlTo_cons (by exact .ptr rfl) SlTo_nil)))))
  ·refine AC_exit ?_
   refine hK15 _ _ _ ?_
   refine AC_seq fun K23 hK23 => ?_
   refine AC_region ?_
   refine AL_ev (Ev_load_ptr rfl rfl rfl rfl rfl rfl ts27 ta27 (by rfl) (by intro h; cases h)) rfl ?_
   refine AL_store rfl (nf rfl) rfl rfl rfl rfl rfl rfl (by rfl) ts27 rfl rfl ?_
   refine AL_nil ?_
   refine hK23 _ _ _ ?_
   refine AC_ret ?_
   exact retd_ok hM hcu hdm (.cell rfl rfl rfl rfl rfl rfl ts27 ta27 (by rfl) (by intro h; cases h) .nil) .d ⟨⟨cs, op⟩, rfl, by omega, by show cs.length ≤ 12; omega, hop⟩
set_option maxHeartbeats 1000000 in
set_option maxRecDepth 4000 in
theorem c_drawCallers (bs : List Int) (hbl : bs.length ≤ lim) : PCall Tryz.prog 8 [.sl .one (u8s bs)] (fun rs => ∃ d : Dbt, rs = [injD d] ∧ bulkD d ≤ 300000 ∧ d.cs.length ≤ 12 ∧ d.op = []) := by
 refine PCall_of (n := 6) Tryz.func8 rfl rfl (Nat.le_of_ble_eq_true rfl) fun C hdm hT0 => ?_
 have hT := hT0
 have hX0 := CExt.refl C
 refine AC_seq fun K1 hK1 => ?_
 refine AC_region ?_
 refine AL_alloc zo27 _ rfl rfl ?_
 refine AL_nil ?_
 refine hK1 _ _ _ ?_
 refine AC_seq fun K2 hK2 => ?_
 refine AC_region ?_
 refine AL_ev (Ev_move) rfl ?_
 refine AL_newcur hT rfl cl40 c_new rfl rfl fun C1 b hx1 hlo hcu => ?_
 have hlo0 := hlo
 have hX1 := hX0.trans hx1
 have hT := hT.ext hx1
 refine AL_dcall hT hcu hbl rfl cl39 (c_l23Db) rfl rfl rfl fun C2 r2 hR2 hM2 hcu hT => ?_
 have hX2 := hX1.marked hM2 (fun c hc => .inr (by rw [List.mem_singleton.1 hc]; exact hlo0))
 obtain ⟨⟨cs, op⟩, rfl, hbd, hcl, hop⟩ := hR2
 refine AL_store rfl (nf rfl) rfl rfl rfl rfl rfl rfl (by rfl) ts27 rfl rfl ?_
 refine AL_nil ?_
 refine hK2 _ _ _ ?_
 refine AC_ret ?_
 exact ret_okX hX2 hdm (.cell rfl rfl rfl rfl rfl rfl ts27 ta27 (by rfl) (by intro h; cases h) .nil) (.cons .d .nil) ⟨⟨cs, op⟩, rfl, hbd, hcl, hop⟩
end Go.Proofs.YtjgliechbnommaaGreatDoor
set_option linter.unusedVariables false
set_option linter.unusedSimpArgs false
namespace Go.Proofs.YtjgliechbnommaaGreatDoor
open Go.Eng
set_option maxHeartbeats 1000000 in
set_option maxRecDepth 4000 in
theorem c_big (bs : List Int) : PCall Tryz.prog 7 [.sl .one (u8s bs)] (· = [.c (.bool (decide ((bs.length : Int) > 1048576)))]) := by
 refine PCall_of (n := 6) Tryz.func7 rfl rfl (Nat.le_of_ble_eq_true rfl) fun C hdm hT0 => ?_
 have hT := hT0
 refine AC_seq fun K1 hK1 => ?_
 refine AC_region ?_
 refine AL_ev (Ev_assign) rfl ?_
 refine AL_nil ?_
 refine hK1 _ _ _ ?_
 refine AC_seq fun K2 hK2 => ?_
 refine AC_region ?_
 refine AL_ev (Ev_move) rfl ?_
 refine AL_lim (x := (Operand.tmp 3)) rfl fun hl1 => ?_
 try simp only [injs_length, ints_length, strs_length, injCs_length, u8s_length, List.length_map] at hl1
 refine AL_ev (Ev_len_u8s te22 rfl) rfl ?_
 refine AL_ev (Ev_gtr rfl rfl) rfl ?_
 refine AL_ev (Ev_assign) rfl ?_
 refine AL_nil ?_
 refine hK2 _ _ _ ?_
 refine AC_ret ?_
 exact ret_ok hdm (.tmp rfl rfl .nil) (.cons .d .nil) rfl
end Go.Proofs.YtjgliechbnommaaGreatDoor
set_option linter.unusedVariables false
set_option linter.unusedSimpArgs false
namespace Go.Proofs.YtjgliechbnommaaGreatDoor
open Go.Eng
theorem cl15 : Callable Tryz.prog 15 := Callable_of Tryz.func15 (by kernel_rfl) (by kernel_rfl)
theorem cl17 : Callable Tryz.prog 17 := Callable_of Tryz.func17 (by kernel_rfl) (by kernel_rfl)
theorem cl20 : Callable Tryz.prog 20 := Callable_of Tryz.func20 (by kernel_rfl) (by kernel_rfl)
theorem cl21 : Callable Tryz.prog 21 := Callable_of Tryz.func21 (by kernel_rfl) (by kernel_rfl)
theorem cl22 : Callable Tryz.prog 22 := Callable_of Tryz.func22 (by kernel_rfl) (by kernel_rfl)
theorem cl23 : Callable Tryz.prog 23 := Callable_of Tryz.func23 (by kernel_rfl) (by kernel_rfl)
theorem cl7 : Callable Tryz.prog 7 := Callable_of Tryz.func7 (by kernel_rfl) (by kernel_rfl)
theorem cl8 : Callable Tryz.prog 8 := Callable_of Tryz.func8 (by kernel_rfl) (by kernel_rfl)
theorem cl9 : Callable Tryz.prog 9 := Callable_of Tryz.func9 (by kernel_rfl) (by kernel_rfl)
theorem tbool4 : tyBool Tryz.prog 4 = true := by kernel_rfl
set_option maxHeartbeats 1000000 in
set_option maxRecDepth 4000 in
theorem c_hasText (xs : List ByteArray) (s : ByteArray) : PCall Tryz.prog 15 [.sl .one (strs xs), .c (.string s)] (· = [.c (.bool (hasS xs s))]) := by
 refine PCall_of (n := 18) Tryz.func15 rfl rfl (Nat.le_of_ble_eq_true rfl) fun C hdm hT0 => ?_
 have hT := hT0
 refine AC_seq fun K1 hK1 => ?_
 refine AC_region ?_
 refine AL_ev (Ev_assign) rfl ?_
 refine AL_nil ?_
 refine hK1 _ _ _ ?_
 refine AC_seq fun K2 hK2 => ?_
 refine AC_seq fun K3 hK3 => ?_
 refine AC_region ?_
 refine AL_ev (Ev_assign) rfl ?_
 refine AL_nil ?_
 refine hK3 _ _ _ ?_
 refine AC_block ?_
 refine AC_loopS [0, 1] (Nat) (fun j => [(5, i64 j)]) (fun j => []) (fun st => xs.length - st) (fun j => j ≤ xs.length ∧ hasS xs s = hasS (xs.drop j) s) (0) ?_ ?_ ?_
 ·exact enterS [] rfl rfl BxTo_nil (SlTo_cons (by exact .rd .d) (SlTo_cons (by exact .rd .d) (SlTo_cons (by exact .rd .d) SlTo_nil)))
 ·exact ⟨Nat.zero_le _, rfl⟩
 rintro j ⟨hj, hI⟩
 show AC _ _ _ _ _ (FS [0, 1] _ [(5, i64 j)]) []
 refine AC_seq fun K4 hK4 => ?_
 refine AC_seq fun K5 hK5 => ?_
 refine AC_region ?_
 refine AL_ev (Ev_move) rfl ?_
 refine AL_ev (Ev_move) rfl ?_
 refine AL_lim (x := (Operand.tmp 7)) rfl fun hl1 => ?_
 try simp only [injs_length, ints_length, strs_length, injCs_length, u8s_length, List.length_map] at hl1
 refine AL_ev (Ev_len_strs te25 rfl) rfl ?_
 refine AL_ev (Ev_lss rfl rfl) rfl ?_
 refine AL_nil ?_
 refine hK5 _ _ _ ?_
 refine AC_cond rfl (fun hc1 => ?_) (fun hc1 => ?_)
 ·have hlt : j < xs.length := by simpa using hc1
  obtain ⟨u, hu⟩ : ∃ x, xs[j]? = some x := ⟨_, List.getElem?_eq_getElem hlt⟩
  have hu2 := strs_get hu
  have hdr := drop_get hu
  refine AC_skip ?_
  refine hK4 _ _ _ ?_
  refine AC_seq fun K6 hK6 => ?_
  refine AC_block ?_
  refine AC_seq fun K7 hK7 => ?_
  refine AC_region ?_
  refine AL_ev (Ev_move) rfl ?_
  refine AL_ev (Ev_move) rfl ?_
  refine AL_ev (Ev_ix_sl rfl rfl te25 ts9 (by omega) (by assumption)) rfl ?_
  refine AL_ev (Ev_load_rp rfl rfl rfl ts9 ta9 rfl (fun _ => rfl)) rfl ?_
  refine AL_ev (Ev_move) rfl ?_
  refine AL_ev (Ev_seql rfl rfl) rfl ?_
  refine AL_nil ?_
  refine hK7 _ _ _ ?_
  refine AC_cond rfl (fun hc2 => ?_) (fun hc2 => ?_)
  ·refine AC_seq fun K8 hK8 => ?_
   refine AC_region ?_
   refine AL_ev (Ev_assign) rfl ?_
   refine AL_nil ?_
   refine hK8 _ _ _ ?_
   refine AC_ret ?_
   refine ret_ok hdm (.tmp rfl rfl .nil) (.cons .d .nil) ?_
   rw [hI]; (rw [hdr]; simp_all [hasS]; done)
  ·refine AC_skip ?_
   refine hK6 _ _ _ ?_
   refine AC_region ?_
   refine AL_ev (Ev_move) rfl ?_
   refine AL_ev (Ev_add rfl rfl _ (wrap_id (by omega) (by omega))) rfl ?_
   refine AL_ev (Ev_assign) rfl ?_
   refine AL_nil ?_
   refine closeS (j + 1) [] rfl rfl (by show xs.length - (j + 1) < xs.length - j; omega) ⟨hlt, ?_⟩ BxTo_nil (SlTo_cons (by exact .rd .d) (SlTo_cons (by exact .rd .d) (SlTo_cons (by exact .rd .d) SlTo_nil)))
   rw [hI, hdr]
   simp_all [hasS]
 ·have hj2 : j = xs.length := by
   have : ¬ j < xs.length := by simpa using hc1
   omega
  subst hj2
  rw [List.drop_length] at hI
  refine AC_exit ?_
  refine hK2 _ _ _ ?_
  refine AC_seq fun K9 hK9 => ?_
  refine AC_region ?_
  refine AL_ev (Ev_assign) rfl ?_
  refine AL_nil ?_
  refine hK9 _ _ _ ?_
  refine AC_ret ?_
  refine ret_ok hdm (.tmp rfl rfl .nil) (.cons .d .nil) ?_
  rw [hI]; (simp [hasS]; done)
set_option maxHeartbeats 1000000 in
set_option maxRecDepth 4000 in
theorem c_sameTexts (xs : List ByteArray) : PCall Tryz.prog 22 [.sl .one (strs xs), .sl .one (strs xs)] (· = [.c (.bool true)]) := by
 refine PCall_of (n := 26) Tryz.func22 rfl rfl (Nat.le_of_ble_eq_true rfl) fun C hdm hT0 => ?_
 have hT := hT0
 refine AC_seq fun K1 hK1 => ?_
 refine AC_region ?_
 refine AL_ev (Ev_assign) rfl ?_
 refine AL_nil ?_
 refine hK1 _ _ _ ?_
 refine AC_seq fun K2 hK2 => ?_
 refine AC_seq fun K3 hK3 => ?_
 refine AC_region ?_
 refine AL_ev (Ev_move) rfl ?_
 refine AL_lim (x := (Operand.tmp 6)) rfl fun hl1 => ?_
 try simp only [injs_length, ints_length, strs_length, injCs_length, u8s_length, List.length_map] at hl1
 refine AL_ev (Ev_len_strs te25 rfl) rfl ?_
 refine AL_ev (Ev_move) rfl ?_
 refine AL_lim (x := (Operand.tmp 8)) rfl fun hl2 => ?_
 try simp only [injs_length, ints_length, strs_length, injCs_length, u8s_length, List.length_map] at hl2
 refine AL_ev (Ev_len_strs te25 rfl) rfl ?_
 refine AL_ev (Ev_neq rfl rfl) rfl ?_
 refine AL_nil ?_
 refine hK3 _ _ _ ?_
 refine AC_cond rfl (fun hc1 => ?_) (fun hc1 => ?_)
 ·simp at hc1
 ·refine AC_skip ?_
  refine hK2 _ _ _ ?_
  refine AC_seq fun K4 hK4 => ?_
  refine AC_seq fun K5 hK5 => ?_
  refine AC_region ?_
  refine AL_ev (Ev_assign) rfl ?_
  refine AL_nil ?_
  refine hK5 _ _ _ ?_
  refine AC_block ?_
  refine AC_loopS [0, 1] (Nat) (fun j => [(5, i64 j)]) (fun j => []) (fun st => xs.length - st) (fun j => j ≤ xs.length ∧ True) (0) ?_ ?_ ?_
  ·exact enterS [] rfl rfl BxTo_nil (SlTo_cons (by exact .rd .d) (SlTo_cons (by exact .rd .d) (SlTo_cons (by exact .rd .d) SlTo_nil)))
  ·exact ⟨Nat.zero_le _, trivial⟩
  rintro j ⟨hj, hI⟩
  show AC _ _ _ _ _ (FS [0, 1] _ [(5, i64 j)]) []
  refine AC_seq fun K6 hK6 => ?_
  refine AC_seq fun K7 hK7 => ?_
  refine AC_region ?_
  refine AL_ev (Ev_move) rfl ?_
  refine AL_ev (Ev_move) rfl ?_
  refine AL_lim (x := (Operand.tmp 12)) rfl fun hl3 => ?_
  try simp only [injs_length, ints_length, strs_length, injCs_length, u8s_length, List.length_map] at hl3
  refine AL_ev (Ev_len_strs te25 rfl) rfl ?_
  refine AL_ev (Ev_lss rfl rfl) rfl ?_
  refine AL_nil ?_
  refine hK7 _ _ _ ?_
  refine AC_cond rfl (fun hc2 => ?_) (fun hc2 => ?_)
  ·have hlt : j < xs.length := by simpa using hc2
   obtain ⟨u, hu⟩ : ∃ x, xs[j]? = some x := ⟨_, List.getElem?_eq_getElem hlt⟩
   have hu2 := strs_get hu
   have hdr := drop_get hu
   refine AC_skip ?_
   refine hK6 _ _ _ ?_
   refine AC_seq fun K8 hK8 => ?_
   refine AC_block ?_
   refine AC_seq fun K9 hK9 => ?_
   refine AC_draw hT follows [0, 1, 2, 3, 4, 5, 6, 7, 8] (by kernel_rfl) ?_
   refine DT_ev rfl (EA_move) rfl ?_
   refine DT_ev rfl (EA_move) rfl ?_
   refine DT_ev rfl (EA_ix_sl rfl rfl te25 ts9 (by omega) (by assumption)) rfl ?_
   refine DT_ev rfl (EA_load_rp rfl rfl rfl ts9 ta9 rfl (fun _ => rfl)) rfl ?_
   refine DT_ev rfl (EA_move) rfl ?_
   refine DT_ev rfl (EA_move) rfl ?_
   refine DT_ev rfl (EA_ix_sl rfl rfl te25 ts9 (by omega) (by assumption)) rfl ?_
   refine DT_ev rfl (EA_load_rp rfl rfl rfl ts9 ta9 rfl (fun _ => rfl)) rfl ?_
   refine DT_ev rfl (EA_sneq rfl rfl) rfl ?_
   refine DTi.nil ?_
   refine hK9 _ _ _ ?_
   refine AC_cond rfl (fun hc3 => ?_) (fun hc3 => ?_)
   ·simp at hc3
   ·refine AC_skip ?_
    refine hK8 _ _ _ ?_
    refine AC_region ?_
    refine AL_ev (Ev_move) rfl ?_
    refine AL_ev (Ev_add rfl rfl _ (wrap_id (by omega) (by omega))) rfl ?_
    refine AL_ev (Ev_assign) rfl ?_
    refine AL_nil ?_
    refine closeS (j + 1) [] rfl rfl (by show xs.length - (j + 1) < xs.length - j; omega) ⟨hlt, ?_⟩ BxTo_nil (SlTo_cons (by exact .rd .d) (SlTo_cons (by exact .rd .d) (SlTo_cons (by exact .rd .d) SlTo_nil)))
    trivial
  ·have hj2 : j = xs.length := by
    have : ¬ j < xs.length := by simpa using hc2
    omega
   subst hj2
   refine AC_exit ?_
   refine hK4 _ _ _ ?_
   refine AC_seq fun K10 hK10 => ?_
   refine AC_region ?_
   refine AL_ev (Ev_assign) rfl ?_
   refine AL_nil ?_
   refine hK10 _ _ _ ?_
   refine AC_ret ?_
   exact ret_ok hdm (.tmp rfl rfl .nil) (.cons .d .nil) rfl
set_option maxHeartbeats 8000000 in
set_option maxRecDepth 4000 in
theorem c_lawCalls (bs : List Int) (hbs : (bs.length : Int) ≤ 1048576) : PCall Tryz.prog 4 [.sl .one (u8s bs)] (· = [.c (.bool true)]) := by
 refine PCall_of (n := 149) Tryz.func4 rfl rfl (Nat.le_of_ble_eq_true rfl) fun C hdm hT0 => ?_
 have hT := hT0
 refine AC_seq fun K1 hK1 => ?_
 refine AC_region ?_
 refine AL_ev (Ev_assign) rfl ?_
 refine AL_nil ?_
 refine hK1 _ _ _ ?_
 refine AC_seq fun K2 hK2 => ?_
 refine AC_seq fun K3 hK3 => ?_
 refine AC_region ?_
 refine AL_ev (Ev_move) rfl ?_
 refine AL_fcall0 hT rfl cl7 (c_big bs) rfl rfl ?_
 refine AL_nil ?_
 refine hK3 _ _ _ ?_
 refine AC_cond rfl (fun hc1 => ?_) (fun hc1 => ?_)
 ·have : (bs.length : Int) > 1048576 := of_decide_eq_true hc1
  omega
 ·refine AC_skip ?_
  refine hK2 _ _ _ ?_
  refine AC_seq fun K4 hK4 => ?_
  refine AC_region ?_
  refine AL_ev (Ev_move) rfl ?_
  refine AL_pcall0 hT rfl cl8 (c_drawCallers bs (by simp only [lim]; omega)) rfl rfl ?_
  rintro _ ⟨⟨cs, op⟩, rfl, hbd, hcl, hop⟩
  have hb9 : bulkD ⟨cs, op⟩ ≤ 1048576 := by omega
  simp only at hcl hop
  have hbk : bulkCs cs ≤ 300000 ∧ (0 : Int) ≤ bulkCs cs := by have h1 := bulkCs_nn cs; have h2 := bulkSs_nn op; simp only [bulkD] at hbd; exact ⟨by omega, h1⟩
  have hpb := predsF_bulk cs [] (by omega)
  have hpl := predsF_len cs []
  simp only [bulkSs, List.length_nil, Nat.zero_add] at hpb hpl
  have hL := callsLaw ⟨cs, op⟩
  have hu9 : bulkD ⟨cs, op⟩ + ((predsF cs []).length + bulkSs (predsF cs [])) ≤ 1048576 := by omega
  have hcP : PCall Tryz.prog 16 [injD ⟨cs, op⟩] (· = [.sl .one (strs (predsF cs []))]) := (c_predsOf ⟨cs, op⟩ hb9).pcall
  have hcM : PCall Tryz.prog 17 [injD ⟨cs, op⟩] (· = [.sl .one (strs (missIn ⟨cs, op⟩))]) := (c_missingIn ⟨cs, op⟩ hb9).ocall.pcall
  have hcS : PCall Tryz.prog 9 [injD ⟨cs, op⟩] (· = [.sl .one (strs (predsF cs []))]) := c_specPredsOf ⟨cs, op⟩ hb9
  have hcR : ∀ p, PCall Tryz.prog 18 [injD ⟨cs, op⟩, .c (.string p)] (· = [.sl .one (strs (reachedFrom ⟨cs, op⟩ p))]) := fun p => (c_reachedFromN ⟨cs, op⟩ p hb9).ocall.pcall
  have hcK : ∀ p, PCall Tryz.prog 19 [injD ⟨cs, op⟩, .c (.string p)] (· = [.sl .one (strs (callsOf ⟨cs, op⟩ p))]) := fun p => (c_callsOf ⟨cs, op⟩ p hb9).pcall
  have hcE : ∀ p, PCall Tryz.prog 21 [injD ⟨cs, op⟩, .c (.string p)] (· = [.c (.bool (hasS (reachedFrom ⟨cs, op⟩ p) p))]) := fun p => c_recursive ⟨cs, op⟩ p hb9
  have hcN : ∀ p, PCall Tryz.prog 20 [injD ⟨cs, op⟩, .c (.string p)] (· = [.c (.bool (knownB ⟨cs, op⟩ p))]) := fun p => c_specKnown ⟨cs, op⟩ p hb9
  have hcU : PCall Tryz.prog 23 [injD ⟨cs, op⟩, .sl .one (strs (predsF cs []))] (· = [.sl .one []]) := by have h := (c_unreached ⟨cs, op⟩ (predsF cs []) hu9).ocall.pcall; rw [unr_all ⟨cs, op⟩] at h; exact h
  have hcV : PCall Tryz.prog 23 [injD ⟨cs, op⟩, .sl .one []] (· = [.sl .one (strs (predsF cs []))]) := by have h := (c_unreached ⟨cs, op⟩ [] (by simp [bulkSs]; omega)).ocall.pcall; rw [unr_none ⟨cs, op⟩] at h; exact h
  revert hL hcP hcM hcS hcR hcK hcE hcN hcU hcV
  generalize predsF cs [] = P
  generalize missIn ⟨cs, op⟩ = Mi
  generalize reachedFrom ⟨cs, op⟩ = R
  generalize callsOf ⟨cs, op⟩ = K
  generalize knownB ⟨cs, op⟩ = kn
  intro hL hcP hcM hcS hcR hcK hcE hcN hcU hcV
  refine AL_alloc zo27 _ rfl rfl ?_
  refine AL_store rfl (nf rfl) rfl rfl rfl rfl rfl rfl (by rfl) ts27 rfl rfl ?_
  refine AL_nil ?_
  refine hK4 _ _ _ ?_
  refine AC_seq fun K5 hK5 => ?_
  refine AC_region ?_
  refine AL_ev (Ev_load_ptr rfl rfl rfl rfl rfl rfl ts27 ta27 (by rfl) (by intro h; cases h)) rfl ?_
  refine AL_fcall0 hT rfl cl16 (hcP) rfl rfl ?_
  refine AL_ev (Ev_assign) rfl ?_
  refine AL_nil ?_
  refine hK5 _ _ _ ?_
  refine AC_seq fun K6 hK6 => ?_
  refine AC_region ?_
  refine AL_ev (Ev_load_ptr rfl rfl rfl rfl rfl rfl ts27 ta27 (by rfl) (by intro h; cases h)) rfl ?_
  refine AL_fcall0 hT rfl cl17 (hcM) rfl rfl ?_
  refine AL_ev (Ev_assign) rfl ?_
  refine AL_nil ?_
  refine hK6 _ _ _ ?_
  refine AC_seq fun K7 hK7 => ?_
  refine AC_seq fun K8 hK8 => ?_
  refine AC_wk (Wk_to [] [(3, .d (.rp LD (injD ⟨cs, op⟩) [])), (4, .d (.sl .one (strs P))), (5, .d (.sl .one (strs Mi)))] [] rfl rfl BxTo_nil (SlTo_cons (by exact .rd (.ptr (srcFree rfl) rfl rfl rfl .d)) (SlTo_cons (by exact .rd .d) (SlTo_cons (by exact .rd .d) SlTo_nil))) ?_)
  refine AC_region ?_
  refine AL_ev (Ev_assign) rfl ?_
  refine AL_nil ?_
  refine hK8 _ _ _ ?_
  refine AC_block ?_
  refine AC_loopS [4, 5] (Nat) (fun j => [(6, i64 j), (3, .d (.rp LD (injD ⟨cs, op⟩) []))]) (fun j => []) (fun st => P.length - st) (fun j => j ≤ P.length ∧ True) (0) ?_ ?_ ?_
  ·exact enterS [] rfl rfl BxTo_nil (SlTo_cons (by exact .rd .d) (SlTo_cons (by exact .rd .d) (SlTo_cons (by exact .rd .d) (SlTo_cons (by exact .rd .d) SlTo_nil))))
  ·exact ⟨Nat.zero_le _, trivial⟩
  rintro j ⟨hj, hI⟩
  show AC _ _ _ _ _ (FS [4, 5] _ [(6, i64 j), (3, .d (.rp LD (injD ⟨cs, op⟩) []))]) []
  refine AC_seq fun K9 hK9 => ?_
  refine AC_seq fun K10 hK10 => ?_
  refine AC_region ?_
  refine AL_ev (Ev_move) rfl ?_
  refine AL_ev (Ev_move) rfl ?_
  refine AL_lim (x := (Operand.tmp 23)) rfl fun hl1 => ?_
  try simp only [injs_length, ints_length, strs_length, injCs_length, u8s_length, List.length_map] at hl1
  refine AL_ev (Ev_len_strs te25 rfl) rfl ?_
  refine AL_ev (Ev_lss rfl rfl) rfl ?_
  refine AL_nil ?_
  refine hK10 _ _ _ ?_
  refine AC_cond rfl (fun hc2 => ?_) (fun hc2 => ?_)
  ·have hlt : j < P.length := by simpa using hc2
   obtain ⟨u, hu⟩ : ∃ x, P[j]? = some x := ⟨_, List.getElem?_eq_getElem hlt⟩
   have hu2 := strs_get hu
   have hdr := drop_get hu
   have hmu := List.mem_of_getElem? hu
   refine AC_skip ?_
   refine hK9 _ _ _ ?_
   refine AC_seq fun K11 hK11 => ?_
   refine AC_block ?_
   refine AC_seq fun K12 hK12 => ?_
   refine AC_draw hT follows [0, 1, 2, 3, 4, 5, 6] (by kernel_rfl) ?_
   refine DT_ev rfl (EA_load_rp rfl rfl rfl ts27 ta27 (by rfl) (by intro h; cases h)) rfl ?_
   refine DT_ev rfl (EA_move) rfl ?_
   refine DT_ev rfl (EA_move) rfl ?_
   refine DT_ev rfl (EA_ix_sl rfl rfl te25 ts9 (by omega) (by assumption)) rfl ?_
   refine DT_ev rfl (EA_load_rp rfl rfl rfl ts9 ta9 rfl (fun _ => rfl)) rfl ?_
   refine DT_fcall0 rfl rfl cl18 (hcR u) rfl rfl ?_
   refine DT_ev rfl (EA_assign) rfl ?_
   refine DTi.nil ?_
   refine hK12 _ _ _ ?_
   refine AC_seq fun K13 hK13 => ?_
   refine AC_draw hT follows [0, 1, 2, 3, 4, 5, 6] (by kernel_rfl) ?_
   refine DT_ev rfl (EA_load_rp rfl rfl rfl ts27 ta27 (by rfl) (by intro h; cases h)) rfl ?_
   refine DT_ev rfl (EA_move) rfl ?_
   refine DT_ev rfl (EA_move) rfl ?_
   refine DT_ev rfl (EA_ix_sl rfl rfl te25 ts9 (by omega) (by assumption)) rfl ?_
   refine DT_ev rfl (EA_load_rp rfl rfl rfl ts9 ta9 rfl (fun _ => rfl)) rfl ?_
   refine DT_fcall0 rfl rfl cl19 (hcK u) rfl rfl ?_
   refine DT_ev rfl (EA_assign) rfl ?_
   refine DTi.nil ?_
   refine hK13 _ _ _ ?_
   refine AC_seq fun K14 hK14 => ?_
   refine AC_seq fun K15 hK15 => ?_
   refine AC_wk (Wk_to [] [(3, .d (.rp LD (injD ⟨cs, op⟩) [])), (4, .d (.sl .one (strs P))), (5, .d (.sl .one (strs Mi))), (6, i64 ((j : Nat) : Int)), (7, .d (.sl .one (strs (R u)))), (8, .d (.sl .one (strs (K u))))] [] rfl rfl BxTo_nil (SlTo_cons (by exact .rd .d) (SlTo_cons (by exact .rd .d) (SlTo_cons (by exact .rd .d) (SlTo_cons (by exact .rd .d) (SlTo_cons (by exact .rd .d) (SlTo_cons (by exact .rd .d) SlTo_nil)))))) ?_)
   refine AC_region ?_
   refine AL_ev (Ev_assign) rfl ?_
   refine AL_nil ?_
   refine hK15 _ _ _ ?_
   refine AC_block ?_
   refine AC_loopS [4, 5, 6, 7, 8] (Nat) (fun j2 => [(9, i64 j2), (3, .d (.rp LD (injD ⟨cs, op⟩) []))]) (fun j2 => []) (fun st => (K u).length - st) (fun j2 => j2 ≤ (K u).length ∧ True) (0) ?_ ?_ ?_
   ·exact enterS [] rfl rfl BxTo_nil (SlTo_cons (by exact .rd .d) (SlTo_cons (by exact .rd .d) (SlTo_cons (by exact .rd .d) (SlTo_cons (by exact .rd .d) (SlTo_cons (by exact .rd .d) (SlTo_cons (by exact .rd .d) (SlTo_cons (by exact .rd .d) SlTo_nil)))))))
   ·exact ⟨Nat.zero_le _, trivial⟩
   rintro j2 ⟨hj, hI⟩
   show AC _ _ _ _ _ (FS [4, 5, 6, 7, 8] _ [(9, i64 j2), (3, .d (.rp LD (injD ⟨cs, op⟩) []))]) []
   refine AC_seq fun K16 hK16 => ?_
   refine AC_seq fun K17 hK17 => ?_
   refine AC_region ?_
   refine AL_ev (Ev_move) rfl ?_
   refine AL_ev (Ev_move) rfl ?_
   refine AL_lim (x := (Operand.tmp 41)) rfl fun hl2 => ?_
   try simp only [injs_length, ints_length, strs_length, injCs_length, u8s_length, List.length_map] at hl2
   refine AL_ev (Ev_len_strs te25 rfl) rfl ?_
   refine AL_ev (Ev_lss rfl rfl) rfl ?_
   refine AL_nil ?_
   refine hK17 _ _ _ ?_
   refine AC_cond rfl (fun hc3 => ?_) (fun hc3 => ?_)
   ·have hlt : j2 < (K u).length := by simpa using hc3
    obtain ⟨v, hu⟩ : ∃ x, (K u)[j2]? = some x := ⟨_, List.getElem?_eq_getElem hlt⟩
    have hu2 := strs_get hu
    have hdr := drop_get hu
    have hmv := List.mem_of_getElem? hu
    have hf1 := hL.f1 u v hmv
    refine AC_skip ?_
    refine hK16 _ _ _ ?_
    refine AC_seq fun K18 hK18 => ?_
    refine AC_block ?_
    refine AC_seq fun K19 hK19 => ?_
    refine AC_draw hT follows [0, 1, 2, 3, 4, 5, 6, 7, 8, 9, 10, 11, 12, 13, 14, 15, 16, 17, 18, 19, 20, 21, 22, 23, 24] (by kernel_rfl) ?_
    refine DT_ev rfl (EA_move) rfl ?_
    refine DT_ev rfl (EA_move) rfl ?_
    refine DT_ev rfl (EA_move) rfl ?_
    refine DT_ev rfl (EA_ix_sl rfl rfl te25 ts9 (by omega) (by assumption)) rfl ?_
    refine DT_ev rfl (EA_load_rp rfl rfl rfl ts9 ta9 rfl (fun _ => rfl)) rfl ?_
    refine DT_fcall0 rfl rfl cl15 (c_hasText (R u) v) rfl rfl ?_
    refine DT_ev rfl (EA_not rfl) rfl ?_
    refine DT_ev rfl (EA_move) rfl ?_
    refine DT_bool 53 rfl (fun hg4 => ?_) (fun hg4 => ?_)
    ·rw [hf1] at hg4; cases hg4
    ·refine DT_evt rfl rfl rfl rfl (EA_load_rp rfl rfl rfl ts27 ta27 (by rfl) (by intro h; cases h)) rfl ?_
     refine DT_evt rfl rfl rfl rfl (EA_move) rfl ?_
     refine DT_evt rfl rfl rfl rfl (EA_move) rfl ?_
     refine DT_evt rfl rfl rfl rfl (EA_ix_sl rfl rfl te25 ts9 (by omega) (by assumption)) rfl ?_
     refine DT_evt rfl rfl rfl rfl (EA_load_rp rfl rfl rfl ts9 ta9 rfl (fun _ => rfl)) rfl ?_
     refine DT_fcall0t rfl rfl rfl rfl rfl cl20 (hcN v) rfl rfl ?_
     refine DT_evt rfl rfl rfl rfl (EA_not rfl) rfl ?_
     refine DT_evt rfl rfl rfl rfl (EA_move) rfl ?_
     refine DT_bool 61 rfl (fun hg5 => ?_) (fun hg5 => ?_)
     ·refine DT_evt rfl rfl rfl rfl (EA_move) rfl ?_
      refine DT_evt rfl rfl rfl rfl (EA_move) rfl ?_
      refine DT_evt rfl rfl rfl rfl (EA_move) rfl ?_
      refine DT_evt rfl rfl rfl rfl (EA_ix_sl rfl rfl te25 ts9 (by omega) (by assumption)) rfl ?_
      refine DT_evt rfl rfl rfl rfl (EA_load_rp rfl rfl rfl ts9 ta9 rfl (fun _ => rfl)) rfl ?_
      refine DT_fcall0t rfl rfl rfl rfl rfl cl15 (c_hasText Mi v) rfl rfl ?_
      refine DT_evt rfl rfl rfl rfl (EA_not rfl) rfl ?_
      refine DT_evt rfl rfl rfl rfl (EA_pick rfl) rfl ?_
      refine DT_ev rfl (EA_pick rfl) rfl ?_
      refine DTi.nil ?_
      refine hK19 _ _ _ ?_
      refine AC_cond rfl (fun hc6 => ?_) (fun hc6 => ?_)
      ·rw [hL.f3 u v hmu hmv (by simpa using hg5)] at hc6; cases hc6
      ·refine AC_skip ?_
       refine hK18 _ _ _ ?_
       refine AC_region ?_
       refine AL_ev (Ev_move) rfl ?_
       refine AL_ev (Ev_add rfl rfl _ (wrap_id (by omega) (by omega))) rfl ?_
       refine AL_ev (Ev_assign) rfl ?_
       refine AL_nil ?_
       refine closeS (j2 + 1) [] rfl rfl (by show (K u).length - (j2 + 1) < (K u).length - j2; omega) ⟨hlt, ?_⟩ BxTo_nil (SlTo_cons (by exact .rd .d) (SlTo_cons (by exact .rd .d) (SlTo_cons (by exact .rd .d) (SlTo_cons (by exact .rd .d) (SlTo_cons (by exact .rd .d) (SlTo_cons (by exact .rd .d) (SlTo_cons (by exact .rd .d) SlTo_nil)))))))
       trivial
     ·refine DT_f rfl rfl rfl rfl rfl ?_
      refine DT_f rfl rfl rfl rfl rfl ?_
      refine DT_f rfl rfl rfl rfl rfl ?_
      refine DT_f rfl rfl rfl rfl rfl ?_
      refine DT_f rfl rfl rfl rfl rfl ?_
      refine DT_f rfl rfl rfl rfl rfl ?_
      refine DT_f rfl rfl rfl rfl rfl ?_
      refine DT_evt rfl rfl rfl rfl (EA_pick rfl) rfl ?_
      refine DT_ev rfl (EA_pick rfl) rfl ?_
      refine DTi.nil ?_
      refine hK19 _ _ _ ?_
      refine AC_cond_f rfl ?_
      refine AC_skip ?_
      refine hK18 _ _ _ ?_
      refine AC_region ?_
      refine AL_ev (Ev_move) rfl ?_
      refine AL_ev (Ev_add rfl rfl _ (wrap_id (by omega) (by omega))) rfl ?_
      refine AL_ev (Ev_assign) rfl ?_
      refine AL_nil ?_
      refine closeS (j2 + 1) [] rfl rfl (by show (K u).length - (j2 + 1) < (K u).length - j2; omega) ⟨hlt, ?_⟩ BxTo_nil (SlTo_cons (by exact .rd .d) (SlTo_cons (by exact .rd .d) (SlTo_cons (by exact .rd .d) (SlTo_cons (by exact .rd .d) (SlTo_cons (by exact .rd .d) (SlTo_cons (by exact .rd .d) (SlTo_cons (by exact .rd .d) SlTo_nil)))))))
      trivial
   ·have hj2 : j2 = (K u).length := by
     have : ¬ j2 < (K u).length := by simpa using hc3
     omega
    subst hj2
    refine AC_exit ?_
    refine hK14 _ _ _ ?_
    refine AC_seq fun K20 hK20 => ?_
    refine AC_seq fun K21 hK21 => ?_
    refine AC_wk (Wk_to [] [(3, .d (.rp LD (injD ⟨cs, op⟩) [])), (4, .d (.sl .one (strs P))), (5, .d (.sl .one (strs Mi))), (6, i64 ((j : Nat) : Int)), (7, .d (.sl .one (strs (R u))))] [] rfl rfl BxTo_nil (SlTo_cons (by exact .rd .d) (SlTo_cons (by exact .rd .d) (SlTo_cons (by exact .rd .d) (SlTo_cons (by exact .rd .d) (SlTo_cons (by exact .rd .d) SlTo_nil))))) ?_)
    refine AC_region ?_
    refine AL_ev (Ev_assign) rfl ?_
    refine AL_nil ?_
    refine hK21 _ _ _ ?_
    refine AC_block ?_
    refine AC_loopS [4, 5, 6, 7] (Nat) (fun j3 => [(10, i64 j3), (3, .d (.rp LD (injD ⟨cs, op⟩) []))]) (fun j3 => []) (fun st => (R u).length - st) (fun j3 => j3 ≤ (R u).length ∧ True) (0) ?_ ?_ ?_
    ·exact enterS [] rfl rfl BxTo_nil (SlTo_cons (by exact .rd .d) (SlTo_cons (by exact .rd .d) (SlTo_cons (by exact .rd .d) (SlTo_cons (by exact .rd .d) (SlTo_cons (by exact .rd .d) (SlTo_cons (by exact .rd .d) SlTo_nil))))))
    ·exact ⟨Nat.zero_le _, trivial⟩
    rintro j3 ⟨hj, hI⟩
    show AC _ _ _ _ _ (FS [4, 5, 6, 7] _ [(10, i64 j3), (3, .d (.rp LD (injD ⟨cs, op⟩) []))]) []
    refine AC_seq fun K22 hK22 => ?_
    refine AC_seq fun K23 hK23 => ?_
    refine AC_region ?_
    refine AL_ev (Ev_move) rfl ?_
    refine AL_ev (Ev_move) rfl ?_
    refine AL_lim (x := (Operand.tmp 72)) rfl fun hl3 => ?_
    try simp only [injs_length, ints_length, strs_length, injCs_length, u8s_length, List.length_map] at hl3
    refine AL_ev (Ev_len_strs te25 rfl) rfl ?_
    refine AL_ev (Ev_lss rfl rfl) rfl ?_
    refine AL_nil ?_
    refine hK23 _ _ _ ?_
    refine AC_cond rfl (fun hc7 => ?_) (fun hc7 => ?_)
    ·have hlt : j3 < (R u).length := by simpa using hc7
     obtain ⟨v, hu⟩ : ∃ x, (R u)[j3]? = some x := ⟨_, List.getElem?_eq_getElem hlt⟩
     have hu2 := strs_get hu
     have hdr := drop_get hu
     have hmv := List.mem_of_getElem? hu
     refine AC_skip ?_
     refine hK22 _ _ _ ?_
     refine AC_seq fun K24 hK24 => ?_
     refine AC_block ?_
     refine AC_seq fun K25 hK25 => ?_
     refine AC_draw hT follows [0, 1, 2, 3, 4, 5, 6] (by kernel_rfl) ?_
     refine DT_ev rfl (EA_load_rp rfl rfl rfl ts27 ta27 (by rfl) (by intro h; cases h)) rfl ?_
     refine DT_ev rfl (EA_move) rfl ?_
     refine DT_ev rfl (EA_move) rfl ?_
     refine DT_ev rfl (EA_ix_sl rfl rfl te25 ts9 (by omega) (by assumption)) rfl ?_
     refine DT_ev rfl (EA_load_rp rfl rfl rfl ts9 ta9 rfl (fun _ => rfl)) rfl ?_
     refine DT_fcall0 rfl rfl cl19 (hcK v) rfl rfl ?_
     refine DT_ev rfl (EA_assign) rfl ?_
     refine DTi.nil ?_
     refine hK25 _ _ _ ?_
     refine AC_seq fun K26 hK26 => ?_
     refine AC_wk (Wk_to [] [(3, .d (.rp LD (injD ⟨cs, op⟩) [])), (4, .d (.sl .one (strs P))), (5, .d (.sl .one (strs Mi))), (6, i64 ((j : Nat) : Int)), (7, .d (.sl .one (strs (R u)))), (10, i64 ((j3 : Nat) : Int)), (11, .d (.sl .one (strs (K v))))] [] rfl rfl BxTo_nil (SlTo_cons (by exact .rd .d) (SlTo_cons (by exact .rd .d) (SlTo_cons (by exact .rd .d) (SlTo_cons (by exact .rd .d) (SlTo_cons (by exact .rd .d) (SlTo_cons (by exact .rd .d) (SlTo_cons (by exact .rd .d) SlTo_nil))))))) ?_)
     refine AC_region ?_
     refine AL_ev (Ev_assign) rfl ?_
     refine AL_nil ?_
     refine hK26 _ _ _ ?_
     refine AC_block ?_
     refine AC_loopS [4, 5, 6, 7, 10, 11] (Nat) (fun j4 => [(12, i64 j4), (3, .d (.rp LD (injD ⟨cs, op⟩) []))]) (fun j4 => []) (fun st => (K v).length - st) (fun j4 => j4 ≤ (K v).length ∧ True) (0) ?_ ?_ ?_
     ·exact enterS [] rfl rfl BxTo_nil (SlTo_cons (by exact .rd .d) (SlTo_cons (by exact .rd .d) (SlTo_cons (by exact .rd .d) (SlTo_cons (by exact .rd .d) (SlTo_cons (by exact .rd .d) (SlTo_cons (by exact .rd .d) (SlTo_cons (by exact .rd .d) (SlTo_cons (by exact .rd .d) SlTo_nil))))))))
     ·exact ⟨Nat.zero_le _, trivial⟩
     rintro j4 ⟨hj, hI⟩
     show AC _ _ _ _ _ (FS [4, 5, 6, 7, 10, 11] _ [(12, i64 j4), (3, .d (.rp LD (injD ⟨cs, op⟩) []))]) []
     refine AC_seq fun K27 hK27 => ?_
     refine AC_seq fun K28 hK28 => ?_
     refine AC_region ?_
     refine AL_ev (Ev_move) rfl ?_
     refine AL_ev (Ev_move) rfl ?_
     refine AL_lim (x := (Operand.tmp 84)) rfl fun hl4 => ?_
     try simp only [injs_length, ints_length, strs_length, injCs_length, u8s_length, List.length_map] at hl4
     refine AL_ev (Ev_len_strs te25 rfl) rfl ?_
     refine AL_ev (Ev_lss rfl rfl) rfl ?_
     refine AL_nil ?_
     refine hK28 _ _ _ ?_
     refine AC_cond rfl (fun hc8 => ?_) (fun hc8 => ?_)
     ·have hlt : j4 < (K v).length := by simpa using hc8
      obtain ⟨y, hu⟩ : ∃ x, (K v)[j4]? = some x := ⟨_, List.getElem?_eq_getElem hlt⟩
      have hu2 := strs_get hu
      have hdr := drop_get hu
      have hmy := List.mem_of_getElem? hu
      have hf2 := hL.f2 u v y hmv hmy
      refine AC_skip ?_
      refine hK27 _ _ _ ?_
      refine AC_seq fun K29 hK29 => ?_
      refine AC_block ?_
      refine AC_seq fun K30 hK30 => ?_
      refine AC_region ?_
      refine AL_ev (Ev_move) rfl ?_
      refine AL_ev (Ev_move) rfl ?_
      refine AL_ev (Ev_move) rfl ?_
      refine AL_ev (Ev_ix_sl rfl rfl te25 ts9 (by omega) (by assumption)) rfl ?_
      refine AL_ev (Ev_load_rp rfl rfl rfl ts9 ta9 rfl (fun _ => rfl)) rfl ?_
      refine AL_fcall0 hT rfl cl15 (c_hasText (R u) y) rfl rfl ?_
      refine AL_ev (Ev_not rfl) rfl ?_
      refine AL_nil ?_
      refine hK30 _ _ _ ?_
      refine AC_cond rfl (fun hc9 => ?_) (fun hc9 => ?_)
      ·rw [hf2] at hc9; cases hc9
      ·refine AC_skip ?_
       refine hK29 _ _ _ ?_
       refine AC_region ?_
       refine AL_ev (Ev_move) rfl ?_
       refine AL_ev (Ev_add rfl rfl _ (wrap_id (by omega) (by omega))) rfl ?_
       refine AL_ev (Ev_assign) rfl ?_
       refine AL_nil ?_
       refine closeS (j4 + 1) [] rfl rfl (by show (K v).length - (j4 + 1) < (K v).length - j4; omega) ⟨hlt, ?_⟩ BxTo_nil (SlTo_cons (by exact .rd .d) (SlTo_cons (by exact .rd .d) (SlTo_cons (by exact .rd .d) (SlTo_cons (by exact .rd .d) (SlTo_cons (by exact .rd .d) (SlTo_cons (by exact .rd .d) (SlTo_cons (by exact .rd .d) (SlTo_cons (by exact .rd .d) SlTo_nil))))))))
       trivial
     ·have hj2 : j4 = (K v).length := by
       have : ¬ j4 < (K v).length := by simpa using hc8
       omega
      subst hj2
      refine AC_exit ?_
      refine hK24 _ _ _ ?_
      refine AC_wk (Wk_to [] [(3, .d (.rp LD (injD ⟨cs, op⟩) [])), (4, .d (.sl .one (strs P))), (5, .d (.sl .one (strs Mi))), (6, i64 ((j : Nat) : Int)), (7, .d (.sl .one (strs (R u)))), (10, i64 ((j3 : Nat) : Int))] [] rfl rfl BxTo_nil (SlTo_cons (by exact .rd .d) (SlTo_cons (by exact .rd .d) (SlTo_cons (by exact .rd .d) (SlTo_cons (by exact .rd .d) (SlTo_cons (by exact .rd .d) (SlTo_cons (by exact .rd .d) SlTo_nil)))))) ?_)
      refine AC_region ?_
      refine AL_ev (Ev_move) rfl ?_
      refine AL_ev (Ev_add rfl rfl _ (wrap_id (by omega) (by omega))) rfl ?_
      refine AL_ev (Ev_assign) rfl ?_
      refine AL_nil ?_
      refine closeS (j3 + 1) [] rfl rfl (by show (R u).length - (j3 + 1) < (R u).length - j3; omega) ⟨hlt, ?_⟩ BxTo_nil (SlTo_cons (by exact .rd .d) (SlTo_cons (by exact .rd .d) (SlTo_cons (by exact .rd .d) (SlTo_cons (by exact .rd .d) (SlTo_cons (by exact .rd .d) (SlTo_cons (by exact .rd .d) SlTo_nil))))))
      trivial
    ·have hj2 : j3 = (R u).length := by
      have : ¬ j3 < (R u).length := by simpa using hc7
      omega
     subst hj2
     refine AC_exit ?_
     refine hK20 _ _ _ ?_
     refine AC_seq fun K31 hK31 => ?_
     refine AC_wk (Wk_to [] [(3, .d (.rp LD (injD ⟨cs, op⟩) [])), (4, .d (.sl .one (strs P))), (5, .d (.sl .one (strs Mi))), (6, i64 ((j : Nat) : Int)), (7, .d (.sl .one (strs (R u))))] [] rfl rfl BxTo_nil (SlTo_cons (by exact .rd .d) (SlTo_cons (by exact .rd .d) (SlTo_cons (by exact .rd .d) (SlTo_cons (by exact .rd .d) (SlTo_cons (by exact .rd .d) SlTo_nil))))) ?_)
     refine AC_draw hT follows [0, 1, 2, 3, 4, 5, 6, 7, 8, 9, 10, 11, 12] (by kernel_rfl) ?_
     refine DT_ev rfl (EA_load_rp rfl rfl rfl ts27 ta27 (by rfl) (by intro h; cases h)) rfl ?_
     refine DT_ev rfl (EA_move) rfl ?_
     refine DT_ev rfl (EA_move) rfl ?_
     refine DT_ev rfl (EA_ix_sl rfl rfl te25 ts9 (by omega) (by assumption)) rfl ?_
     refine DT_ev rfl (EA_load_rp rfl rfl rfl ts9 ta9 rfl (fun _ => rfl)) rfl ?_
     refine DT_fcall0 rfl rfl cl21 (hcE u) rfl rfl ?_
     refine DT_ev rfl (EA_move) rfl ?_
     refine DT_ev rfl (EA_move) rfl ?_
     refine DT_ev rfl (EA_move) rfl ?_
     refine DT_ev rfl (EA_ix_sl rfl rfl te25 ts9 (by omega) (by assumption)) rfl ?_
     refine DT_ev rfl (EA_load_rp rfl rfl rfl ts9 ta9 rfl (fun _ => rfl)) rfl ?_
     refine DT_fcall0 rfl rfl cl15 (c_hasText (R u) u) rfl rfl ?_
     refine DT_ev rfl (EA_bneq tbool4 rfl rfl) rfl ?_
     refine DTi.nil ?_
     refine hK31 _ _ _ ?_
     refine AC_cond rfl (fun hc10 => ?_) (fun hc10 => ?_)
     ·simp at hc10
     ·refine AC_skip ?_
      refine hK11 _ _ _ ?_
      refine AC_wk (Wk_to [] [(3, .d (.rp LD (injD ⟨cs, op⟩) [])), (4, .d (.sl .one (strs P))), (5, .d (.sl .one (strs Mi))), (6, i64 ((j : Nat) : Int))] [] rfl rfl BxTo_nil (SlTo_cons (by exact .rd .d) (SlTo_cons (by exact .rd .d) (SlTo_cons (by exact .rd .d) (SlTo_cons (by exact .rd .d) SlTo_nil)))) ?_)
      refine AC_region ?_
      refine AL_ev (Ev_move) rfl ?_
      refine AL_ev (Ev_add rfl rfl _ (wrap_id (by omega) (by omega))) rfl ?_
      refine AL_ev (Ev_assign) rfl ?_
      refine AL_nil ?_
      refine closeS (j + 1) [] rfl rfl (by show P.length - (j + 1) < P.length - j; omega) ⟨hlt, ?_⟩ BxTo_nil (SlTo_cons (by exact .rd .d) (SlTo_cons (by exact .rd .d) (SlTo_cons (by exact .rd .d) (SlTo_cons (by exact .rd .d) SlTo_nil))))
      trivial
  ·have hj2 : j = P.length := by
    have : ¬ j < P.length := by simpa using hc2
    omega
   subst hj2
   refine AC_exit ?_
   refine hK7 _ _ _ ?_
   refine AC_seq fun K32 hK32 => ?_
   refine AC_seq fun K33 hK33 => ?_
   refine AC_wk (Wk_to [] [(3, .d (.rp LD (injD ⟨cs, op⟩) [])), (4, .d (.sl .one (strs P))), (5, .d (.sl .one (strs Mi)))] [] rfl rfl BxTo_nil (SlTo_cons (by exact .rd .d) (SlTo_cons (by exact .rd .d) (SlTo_cons (by exact .rd .d) SlTo_nil))) ?_)
   refine AC_region ?_
   refine AL_ev (Ev_assign) rfl ?_
   refine AL_nil ?_
   refine hK33 _ _ _ ?_
   refine AC_block ?_
   refine AC_loopS [4, 5] (Nat) (fun j5 => [(13, i64 j5), (3, .d (.rp LD (injD ⟨cs, op⟩) []))]) (fun j5 => []) (fun st => Mi.length - st) (fun j5 => j5 ≤ Mi.length ∧ True) (0) ?_ ?_ ?_
   ·exact enterS [] rfl rfl BxTo_nil (SlTo_cons (by exact .rd .d) (SlTo_cons (by exact .rd .d) (SlTo_cons (by exact .rd .d) (SlTo_cons (by exact .rd .d) SlTo_nil))))
   ·exact ⟨Nat.zero_le _, trivial⟩
   rintro j5 ⟨hj, hI⟩
   show AC _ _ _ _ _ (FS [4, 5] _ [(13, i64 j5), (3, .d (.rp LD (injD ⟨cs, op⟩) []))]) []
   refine AC_seq fun K34 hK34 => ?_
   refine AC_seq fun K35 hK35 => ?_
   refine AC_region ?_
   refine AL_ev (Ev_move) rfl ?_
   refine AL_ev (Ev_move) rfl ?_
   refine AL_lim (x := (Operand.tmp 110)) rfl fun hl5 => ?_
   try simp only [injs_length, ints_length, strs_length, injCs_length, u8s_length, List.length_map] at hl5
   refine AL_ev (Ev_len_strs te25 rfl) rfl ?_
   refine AL_ev (Ev_lss rfl rfl) rfl ?_
   refine AL_nil ?_
   refine hK35 _ _ _ ?_
   refine AC_cond rfl (fun hc11 => ?_) (fun hc11 => ?_)
   ·have hlt : j5 < Mi.length := by simpa using hc11
    obtain ⟨y, hu⟩ : ∃ x, Mi[j5]? = some x := ⟨_, List.getElem?_eq_getElem hlt⟩
    have hu2 := strs_get hu
    have hdr := drop_get hu
    have hmy := List.mem_of_getElem? hu
    have hf4 := hL.f4 y hmy
    refine AC_skip ?_
    refine hK34 _ _ _ ?_
    refine AC_seq fun K36 hK36 => ?_
    refine AC_block ?_
    refine AC_seq fun K37 hK37 => ?_
    refine AC_draw hT follows [0, 1, 2, 3, 4, 5] (by kernel_rfl) ?_
    refine DT_ev rfl (EA_load_rp rfl rfl rfl ts27 ta27 (by rfl) (by intro h; cases h)) rfl ?_
    refine DT_ev rfl (EA_move) rfl ?_
    refine DT_ev rfl (EA_move) rfl ?_
    refine DT_ev rfl (EA_ix_sl rfl rfl te25 ts9 (by omega) (by assumption)) rfl ?_
    refine DT_ev rfl (EA_load_rp rfl rfl rfl ts9 ta9 rfl (fun _ => rfl)) rfl ?_
    refine DT_fcall0 rfl rfl cl20 (hcN y) rfl rfl ?_
    refine DTi.nil ?_
    refine hK37 _ _ _ ?_
    refine AC_cond rfl (fun hc12 => ?_) (fun hc12 => ?_)
    ·rw [hf4] at hc12; cases hc12
    ·refine AC_skip ?_
     refine hK36 _ _ _ ?_
     refine AC_region ?_
     refine AL_ev (Ev_move) rfl ?_
     refine AL_ev (Ev_add rfl rfl _ (wrap_id (by omega) (by omega))) rfl ?_
     refine AL_ev (Ev_assign) rfl ?_
     refine AL_nil ?_
     refine closeS (j5 + 1) [] rfl rfl (by show Mi.length - (j5 + 1) < Mi.length - j5; omega) ⟨hlt, ?_⟩ BxTo_nil (SlTo_cons (by exact .rd .d) (SlTo_cons (by exact .rd .d) (SlTo_cons (by exact .rd .d) (SlTo_cons (by exact .rd .d) SlTo_nil))))
     trivial
   ·have hj2 : j5 = Mi.length := by
     have : ¬ j5 < Mi.length := by simpa using hc11
     omega
    subst hj2
    refine AC_exit ?_
    refine hK32 _ _ _ ?_
    refine AC_seq fun K38 hK38 => ?_
    refine AC_wk (Wk_to [] [(3, .d (.rp LD (injD ⟨cs, op⟩) [])), (4, .d (.sl .one (strs P)))] [] rfl rfl BxTo_nil (SlTo_cons (by exact .rd .d) (SlTo_cons (by exact .rd .d) SlTo_nil)) ?_)
    refine AC_region ?_
    refine AL_ev (Ev_move) rfl ?_
    refine AL_ev (Ev_load_rp rfl rfl rfl ts27 ta27 (by rfl) (by intro h; cases h)) rfl ?_
    refine AL_fcall0 hT rfl cl9 (hcS) rfl rfl ?_
    refine AL_fcall0 hT rfl cl22 (c_sameTexts P) rfl rfl ?_
    refine AL_ev (Ev_move) rfl ?_
    refine AL_bool 125 rfl (fun hg13 => ?_) (fun hg13 => ?_)
    ·refine AL_guard_t rfl rfl rfl ?_
     refine AL_ev (Ev_load_rp rfl rfl rfl ts27 ta27 (by rfl) (by intro h; cases h)) rfl ?_
     refine AL_guard_t rfl rfl rfl ?_
     refine AL_ev (Ev_move) rfl ?_
     refine AL_guard_t rfl rfl rfl ?_
     refine AL_fcall0 hT rfl cl23 (hcU) rfl rfl ?_
     refine AL_guard_t rfl rfl rfl ?_
     refine AL_lim (x := (Operand.tmp 128)) rfl fun hl6 => ?_
     refine AL_ev (Ev_len_sl te25 rfl) rfl ?_
     refine AL_guard_t rfl rfl rfl ?_
     refine AL_ev (Ev_eql rfl rfl) rfl ?_
     refine AL_ev (Ev_pick rfl) rfl ?_
     refine AL_ev (Ev_move) rfl ?_
     refine AL_bool 132 rfl (fun hg14 => ?_) (fun hg14 => ?_)
     ·refine AL_guard_t rfl rfl rfl ?_
      refine AL_ev (Ev_load_rp rfl rfl rfl ts27 ta27 (by rfl) (by intro h; cases h)) rfl ?_
      refine AL_guard_t rfl rfl rfl ?_
      refine AL_bD .one rfl te25 ts9 tz9 rfl rfl (by decide) (by decide) (by rfl) rfl ?_
      refine AL_guard_t rfl rfl rfl ?_
      refine AL_fcall0 hT rfl cl23 (hcV) rfl rfl ?_
      refine AL_guard_t rfl rfl rfl ?_
      refine AL_lim (x := (Operand.tmp 135)) rfl fun hl7 => ?_
      try simp only [injs_length, ints_length, strs_length, injCs_length, u8s_length, List.length_map] at hl7
      refine AL_ev (Ev_len_strs te25 rfl) rfl ?_
      refine AL_guard_t rfl rfl rfl ?_
      refine AL_ev (Ev_move) rfl ?_
      refine AL_guard_t rfl rfl rfl ?_
      refine AL_lim (x := (Operand.tmp 137)) rfl fun hl8 => ?_
      try simp only [injs_length, ints_length, strs_length, injCs_length, u8s_length, List.length_map] at hl8
      refine AL_ev (Ev_len_strs te25 rfl) rfl ?_
      refine AL_guard_t rfl rfl rfl ?_
      refine AL_ev (Ev_eql rfl rfl) rfl ?_
      refine AL_ev (Ev_pick rfl) rfl ?_
      refine AL_ev (Ev_move) rfl ?_
      refine AL_bool 141 rfl (fun hg15 => ?_) (fun hg15 => ?_)
      ·refine AL_guard_t rfl rfl rfl ?_
       refine AL_ev (Ev_move) rfl ?_
       refine AL_guard_t rfl rfl rfl ?_
       refine AL_lim (x := (Operand.tmp 142)) rfl fun hl9 => ?_
       try simp only [injs_length, ints_length, strs_length, injCs_length, u8s_length, List.length_map] at hl9
       refine AL_ev (Ev_len_strs te25 rfl) rfl ?_
       refine AL_guard_t rfl rfl rfl ?_
       refine AL_ev (Ev_fa_rp rfl fa27_0 rfl rfl) rfl ?_
       refine AL_guard_t rfl rfl rfl ?_
       refine AL_ev (Ev_load_rp rfl rfl rfl ts24 ta24 rfl (fun _ => rfl)) rfl ?_
       refine AL_guard_t rfl rfl rfl ?_
       refine AL_lim (x := (Operand.tmp 145)) rfl fun hl10 => ?_
       try simp only [injs_length, ints_length, strs_length, injCs_length, u8s_length, List.length_map] at hl10
       refine AL_ev (Ev_len_injCs te24 rfl) rfl ?_
       refine AL_guard_t rfl rfl rfl ?_
       refine AL_ev (Ev_leq rfl rfl) rfl ?_
       refine AL_ev (Ev_pick rfl) rfl ?_
       refine AL_ev (Ev_assign) rfl ?_
       refine AL_nil ?_
       refine hK38 _ _ _ ?_
       refine AC_ret ?_
       refine ret_ok hdm (.tmp rfl rfl .nil) (.cons .d .nil) ?_
       have h5 := hL.f5; simp; exact h5
      ·exact absurd (of_decide_eq_false hg15) (by simp)
     ·exact absurd (of_decide_eq_false hg14) (by simp)
    ·cases hg13
end Go.Proofs.YtjgliechbnommaaGreatDoor
